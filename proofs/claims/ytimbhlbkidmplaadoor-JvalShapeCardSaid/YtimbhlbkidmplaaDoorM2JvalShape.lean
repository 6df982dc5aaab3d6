import Derived.Test.YtimbhlbkidmplaaDoorM1JvalShape
import Derived.Test.YtimbhlbkidmplaaDoorAbsTy
import Derived.Test.YtimbhlbkidmplaaDoorAbsMore
/-! Part 2 of the proof of JvalShape: the texts Pp Jt5 Jt6 Idx Jt7 Jt8 Jt9 J1 Jp1 Jp2. -/
set_option linter.unusedSimpArgs false
/- Pure functions of whose result only properties are known. -/
namespace Go.Abs
open Go
/-- a pure call of which what is known of what it hands back is said. -/
theorem pure_slimE {C : Cfg} {prot : Nat} {f : FuncId} {args args' : List AV} {sn : Bool} {H : Heap} {fn : Func} {c : Code} {P : AV → Prop} (hok : C.ok f = true) (hp : C.pure f = true) (hfn : C.P.funcs[f]? = some fn) (hb : fn.body.map (slim C) = some c)
    (hpr : prot ≤ H.length) (hs : snap H args = some (args', sn)) (hl : args'.length ≤ fn.ntmps)
    (h : ∀ fr, fr.length = fn.ntmps → Has fr 0 args' → ∃ r, P r ∧ R ⟨C, H.length, fn.results.toList, .pure sn⟩ c [] fr H (r, none)) : ∃ r, P r ∧ aLim C prot f args H = some (r, none) := by
  rw [Option.map_eq_some_iff] at hb
  obtain ⟨c0, hb, rfl⟩ := hb
  have h := entered (Q := fun fr => ∃ r, P r ∧ R ⟨C, H.length, fn.results.toList, .pure sn⟩ (slim C c0) [] fr H (r, none)) hl h
  obtain ⟨r0, hP, h⟩ := h
  have h := R_slim (X := ⟨C, H.length, fn.results.toList, .pure sn⟩) h
  refine ⟨r0, hP, ?_⟩
  obtain ⟨e, fr', H', h1, h2⟩ := h
  have h1' := aCode_conv (aLim_conv C) _ h1
  have hfin : Fin ⟨C, H.length, fn.results.toList, .pure sn⟩ fr' H' (r0, none) ∧ ∀ id, e ≠ .exit id := by
    cases e with
    | normal => exact ⟨h2, fun _ h => by cases h⟩
    | ret => exact ⟨h2, fun _ h => by cases h⟩
    | exit id => exact h2.elim
  obtain ⟨⟨l, hr, r', hfz, hfl, he⟩, hex⟩ := hfin
  cases he
  refine aLim_of ?_
  obtain ⟨n0, h0⟩ := h1'.and hfz.ev
  refine ⟨n0 + 1, fun n hn => ?_⟩
  obtain ⟨n, rfl⟩ : ∃ j, n = j + 1 := ⟨n - 1, by omega⟩
  obtain ⟨h3, h4⟩ := h0 n (by omega)
  have e2 : sn = true → flat r0 = true := hfl
  cases e with
  | exit id => exact absurd rfl (hex id)
  | normal =>
    simp only [aCall, hok, Bool.true_eq_false, if_false, hfn, hb, hp, if_true, hpr, hs, Option.bind_some, aBody, h3, hr, Option.map_some, h4]
    cases sn with
    | true => simp only [if_true, e2 rfl]
    | false => rfl
  | ret =>
    simp only [aCall, hok, Bool.true_eq_false, if_false, hfn, hb, hp, if_true, hpr, hs, Option.bind_some, aBody, h3, hr, Option.map_some, h4]
    cases sn with
    | true => simp only [if_true, e2 rfl]
    | false => rfl
theorem loop_ruleP {X : Ctx} {c : Code} {κ : List K} {P : AV → Prop} (Inv : Nat → List AV → Heap → Prop)
    (step : ∀ m fr H, Inv m fr H → (∀ fr' H' m', m' < m → Inv m' fr' H' → ∃ r, P r ∧ U X (.loop c :: κ) .normal fr' H' (r, none)) → ∃ r, P r ∧ R X c (.loop c :: κ) fr H (r, none)) :
    ∀ (m : Nat) (fr : List AV) (H : Heap), Inv m fr H → ∃ r, P r ∧ R X (.loop c) κ fr H (r, none) := by
  intro m
  induction m using Nat.strongRecOn with
  | _ m ih =>
    intro fr H h
    simp only [R_loop]
    refine step m fr H h fun fr' H' m' hm h' => ?_
    have := ih m' hm fr' H' h'
    simp only [U_loop, ← R_loop]
    exact this
end Go.Abs
/- jtok.text, walked. -/
namespace Go.Proofs.YtimbhlbkidmplaaDoor
open Go Go.Abs AbsSeat Ty

theorem u41 : type_of% (And.intro ag3 (And.intro sz3 (And.intro by3 (And.intro ze3 (And.intro Tryd.underlying3 (And.intro ag5 (And.intro sz5 (And.intro by5 (And.intro ze5 (And.intro Tryd.underlying5 (And.intro ag9 (And.intro sz9 (And.intro by9 (And.intro ze9 (And.intro Tryd.underlying9 (And.intro ag33 (And.intro sz33 (And.intro by33 (And.intro ze33 (And.intro Tryd.underlying33 (And.intro ag77 (And.intro sz77 (And.intro by77 (And.intro ze77 (And.intro Tryd.underlying77 (And.intro ag97 (And.intro sz97 (And.intro by97 (And.intro se97 (And.intro ze97 Tryd.underlying97)))))))))))))))))))))))))))))) := And.intro ag3 (And.intro sz3 (And.intro by3 (And.intro ze3 (And.intro Tryd.underlying3 (And.intro ag5 (And.intro sz5 (And.intro by5 (And.intro ze5 (And.intro Tryd.underlying5 (And.intro ag9 (And.intro sz9 (And.intro by9 (And.intro ze9 (And.intro Tryd.underlying9 (And.intro ag33 (And.intro sz33 (And.intro by33 (And.intro ze33 (And.intro Tryd.underlying33 (And.intro ag77 (And.intro sz77 (And.intro by77 (And.intro ze77 (And.intro Tryd.underlying77 (And.intro ag97 (And.intro sz97 (And.intro by97 (And.intro se97 (And.intro ze97 Tryd.underlying97)))))))))))))))))))))))))))))
def g41 : Code :=
  .seq (.region 0 #[q 4 (.assign (.const (.string { data := #[] }))) 9, q 5 (.assign (ik 0)) 3, q 6 (.assign (.const .nilIface)) 77] false) (.seq (.region 1 #[q 7 (.assign (.const (.slice none 0 0))) 97] false) (.seq (.block 0 (.loop (.seq (.seq (.region 2 #[q 14 (.move (.tmp 1)) 3, q 15 (.move (.tmp 0)) 9, q 16 (bi .len #[.tmp 15] #[9]) 3, q 17 (.binOp .lss 3 (.tmp 14) (.tmp 16) 3) 4, q 18 (.move (.tmp 17)) 4, qg 19 (.move (.tmp 0)) 9 4 true, qg 20 (.move (.tmp 1)) 3 4 true, qg 21 (.index 9 (.tmp 19) (.tmp 20)) 5 4 true, qg 22 (.binOp .neq 5 (.tmp 21) (.const (.int .u8 34)) 5) 4 4 true, q 23 (.pick (.tmp 18) (.tmp 22) (.const (.bool false))) 4] false) (.cond (.tmp 23) .skip (.exit 0))) (.block 1 (.block 2 (.seq (.region 8 #[q 55 (.move (.tmp 0)) 9, q 56 (.move (.tmp 1)) 3, q 57 (.index 9 (.tmp 55) (.tmp 56)) 5, q 58 (.binOp .lss 5 (.tmp 57) (.const (.int .u8 32)) 5) 4, q 54 (.assign (.tmp 58)) 4] false) (.cond (.tmp 54) (.seq (.region 9 #[q 59 (.move (.tmp 1)) 3, q 60 (.move (.tmp 1)) 3, q 61 (cl 45 #[.tmp 60, ik 3] #[3, 33]) 77, q 4 (.assign (.const (.string { data := #[] }))) 9, q 5 (.assign (.tmp 59)) 3, q 6 (.assign (.tmp 61)) 77] false) .ret) (.seq (.region 10 #[q 63 (.move (.tmp 0)) 9, q 64 (.move (.tmp 1)) 3, q 65 (.index 9 (.tmp 63) (.tmp 64)) 5, q 66 (.binOp .eql 5 (.tmp 65) (.const (.int .u8 92)) 5) 4, q 62 (.assign (.tmp 66)) 4] false) (.cond (.tmp 62) (.seq (.region 11 #[q 68 (.move (.tmp 0)) 9, q 69 (.move (.tmp 1)) 3, q 70 (.binOp .add 3 (.tmp 69) (ik 1) 3) 3, q 71 (cl 53 #[.tmp 68, .tmp 70] #[9, 3]) 98, q 67 (.move (.tmp 71)) 98, q 72 (.extract (.tmp 67) 0) 97, q 73 (.extract (.tmp 67) 1) 3, q 74 (.extract (.tmp 67) 2) 77, q 8 (.assign (.tmp 72)) 97, q 9 (.assign (.tmp 73)) 3, q 10 (.assign (.tmp 74)) 77] false) (.seq (.seq (.region 12 #[q 75 (.move (.tmp 10)) 77, q 76 (.binOp .neq 77 (.tmp 75) (.const .nilIface) 77) 4] false) (.cond (.tmp 76) (.seq (.region 13 #[q 77 (.move (.tmp 1)) 3, q 78 (.move (.tmp 10)) 77, q 4 (.assign (.const (.string { data := #[] }))) 9, q 5 (.assign (.tmp 77)) 3, q 6 (.assign (.tmp 78)) 77] false) .ret) .skip)) (.seq (.region 14 #[q 79 (.move (.tmp 7)) 97, q 80 (.move (.tmp 8)) 97, q 81 (bi .append #[.tmp 79, .tmp 80] #[97, 97]) 97, q 7 (.assign (.tmp 81)) 97] false) (.region 15 #[q 82 (.move (.tmp 9)) 3, q 1 (.assign (.tmp 82)) 3] false)))) (.seq (.region 3 #[q 25 (.move (.tmp 0)) 9, q 26 (.move (.tmp 1)) 3, q 27 (.move (.tmp 1)) 3, q 28 (.binOp .add 3 (.tmp 27) (ik 4) 3) 3, q 29 (.move (.tmp 0)) 9, q 30 (bi .len #[.tmp 29] #[9]) 3, q 31 (bi .min #[.tmp 28, .tmp 30] #[3, 3]) 3, q 32 (.slice 9 (.tmp 25) (some (.tmp 26)) (some (.tmp 31)) none) 9, q 33 (.convert 9 97 (.tmp 32)) 97, q 34 (cl 54 #[.tmp 33] #[97]) 100, q 24 (.move (.tmp 34)) 100, q 35 (.extract (.tmp 24) 0) 21, q 36 (.extract (.tmp 24) 1) 3, q 37 (.extract (.tmp 24) 2) 33, q 11 (.assign (.tmp 35)) 21, q 12 (.assign (.tmp 36)) 3, q 13 (.assign (.tmp 37)) 33] false) (.seq (.seq (.region 4 #[q 38 (.move (.tmp 13)) 33, q 39 (.binOp .neq 33 (.tmp 38) (ik 0) 33) 4] false) (.cond (.tmp 39) (.seq (.region 5 #[q 40 (.move (.tmp 1)) 3, q 41 (.move (.tmp 1)) 3, q 42 (cl 45 #[.tmp 41, ik 3] #[3, 33]) 77, q 4 (.assign (.const (.string { data := #[] }))) 9, q 5 (.assign (.tmp 40)) 3, q 6 (.assign (.tmp 42)) 77] false) .ret) .skip)) (.seq (.region 6 #[q 43 (.move (.tmp 7)) 97, q 44 (.move (.tmp 0)) 9, q 45 (.move (.tmp 1)) 3, q 46 (.move (.tmp 1)) 3, q 47 (.move (.tmp 12)) 3, q 48 (.binOp .add 3 (.tmp 46) (.tmp 47) 3) 3, q 49 (.slice 9 (.tmp 44) (some (.tmp 45)) (some (.tmp 48)) none) 9, q 50 (bi .append #[.tmp 43, .tmp 49] #[97, 9]) 97, q 7 (.assign (.tmp 50)) 97] false) (.region 7 #[q 51 (.move (.tmp 1)) 3, q 52 (.move (.tmp 12)) 3, q 53 (.binOp .add 3 (.tmp 51) (.tmp 52) 3) 3, q 1 (.assign (.tmp 53)) 3] false))))))))))))) (.seq (.seq (.region 16 #[q 83 (.move (.tmp 1)) 3, q 84 (.move (.tmp 0)) 9, q 85 (bi .len #[.tmp 84] #[9]) 3, q 86 (.binOp .geq 3 (.tmp 83) (.tmp 85) 3) 4] false) (.cond (.tmp 86) (.seq (.region 17 #[q 87 (.move (.tmp 1)) 3, q 88 (.move (.tmp 1)) 3, q 89 (cl 45 #[.tmp 88, ik 3] #[3, 33]) 77, q 4 (.assign (.const (.string { data := #[] }))) 9, q 5 (.assign (.tmp 87)) 3, q 6 (.assign (.tmp 89)) 77] false) .ret) .skip)) (.seq (.region 18 #[q 90 (.move (.tmp 7)) 97, q 91 (.convert 97 9 (.tmp 90)) 9, q 92 (.move (.tmp 1)) 3, q 93 (.binOp .add 3 (.tmp 92) (ik 1) 3) 3, q 4 (.assign (.tmp 91)) 9, q 5 (.assign (.tmp 93)) 3, q 6 (.assign (.const .nilIface)) 77] false) .ret))))
theorem s41 : Tryd.f41.body.map (slim cfg) = some g41 := by kernel_rfl
theorem putT_len : ∀ (k : Nat) (r : Int) (t : List UInt8), (putT k r t).2.length = k + t.length
  | 0, r, t => by simp [putT]
  | k + 1, r, t => by rw [putT, putT_len k]; simp; omega
theorem putU_len (r : Int) : (putU r).length ≤ 4 := by
  have := widthU_b r
  simp only [putU, List.length_cons, putT_len, List.length_nil]
  omega
theorem codedS_out {r : List UInt8} {b : List UInt8} {n : Nat} (h : codedS r = some (b, n)) : b.length ≤ n := by
  have hn := (codedS_pos h).1
  have : b.length ≤ 4 := by
    unfold codedS at h
    cases h4 : fourS r with
    | none => simp [h4] at h
    | some v =>
      simp only [h4] at h
      cases h2 : secondS v r with
      | none => simp only [h2] at h; split at h <;> cases h; exact putU_len _
      | some p => simp only [h2] at h; split at h <;> cases h; exact putU_len _
  omega
theorem escS_out {r : List UInt8} {b : List UInt8} {n : Nat} (h : escS r = some (b, n)) : b.length ≤ n := by
  cases r with
  | nil => cases h
  | cons c t =>
    rw [escS] at h
    split at h
    · cases hc : codedS t with
      | none => simp [hc] at h
      | some x =>
        obtain ⟨b', n'⟩ := x
        simp only [hc, Option.map_some, Option.some.injEq, Prod.mk.injEq] at h
        obtain ⟨rfl, rfl⟩ := h
        have := codedS_out hc
        omega
    · cases hc : escC c with
      | none => simp [hc] at h
      | some d =>
        simp only [hc, Option.map_some, Option.some.injEq, Prod.mk.injEq] at h
        obtain ⟨rfl, rfl⟩ := h
        simp
/-- what stands in quotes, and how many bytes that are. -/
def textS (r : List UInt8) : Option (List UInt8 × Nat) :=
  match _hr : r with
  | [] => none
  | c :: t =>
    if c = 34 then some ([], 1)
    else if c.toNat < 32 then none
    else if c = 92 then
      match _h : escS t with
      | none => none
      | some (b, n) => (textS (t.drop n)).map fun x => (b ++ x.1, n + 1 + x.2)
    else if _h : (nextU ((c :: t).take 4)).2.2 = 0 then (textS ((c :: t).drop (nextU ((c :: t).take 4)).2.1)).map fun x => ((c :: t).take (nextU ((c :: t).take 4)).2.1 ++ x.1, (nextU ((c :: t).take 4)).2.1 + x.2)
    else none
termination_by r.length
decreasing_by
  · simp; omega
  · have := nextU_pos _h; simp only [List.length_drop, List.length_cons]; omega
theorem textS_nil : textS [] = none := by rw [textS]
theorem textS_end (t : List UInt8) : textS (34 :: t) = some ([], 1) := by rw [textS]; simp
theorem textS_low {c : UInt8} (t : List UInt8) (h1 : ¬ c = 34) (h2 : c.toNat < 32) : textS (c :: t) = none := by rw [textS]; simp only [if_neg h1, if_pos h2]
theorem textS_escE {t : List UInt8} (h : escS t = none) : textS (92 :: t) = none := by
  rw [textS, if_neg (by decide), if_neg (by decide), if_pos rfl]
  split
  · rfl
  · rename_i h2; rw [h] at h2; cases h2
theorem textS_esc {t b : List UInt8} {n : Nat} (h : escS t = some (b, n)) : textS (92 :: t) = (textS (t.drop n)).map fun x => (b ++ x.1, n + 1 + x.2) := by
  rw [textS, if_neg (by decide), if_neg (by decide), if_pos rfl]
  split
  · rename_i h2; rw [h] at h2; cases h2
  · rename_i h2; rw [h] at h2; cases h2; rfl
theorem textS_bad {c : UInt8} {t : List UInt8} (h1 : ¬ c = 34) (h2 : ¬ c.toNat < 32) (h3 : ¬ c = 92) (h4 : ¬ (nextU ((c :: t).take 4)).2.2 = 0) : textS (c :: t) = none := by
  rw [textS, if_neg h1, if_neg h2, if_neg h3, dif_neg h4]
theorem textS_rune {c : UInt8} {t : List UInt8} (h1 : ¬ c = 34) (h2 : ¬ c.toNat < 32) (h3 : ¬ c = 92) (h4 : (nextU ((c :: t).take 4)).2.2 = 0) :
    textS (c :: t) = (textS ((c :: t).drop (nextU ((c :: t).take 4)).2.1)).map fun x => ((c :: t).take (nextU ((c :: t).take 4)).2.1 ++ x.1, (nextU ((c :: t).take 4)).2.1 + x.2) := by
  rw [textS, if_neg h1, if_neg h2, if_neg h3, dif_pos h4]

theorem bytesB2 : ∀ s : List UInt8, bytesOk (cellsOf encB s) = true ∧ bytesOf (cellsOf encB s) = some s
  | [] => ⟨rfl, rfl⟩
  | c :: r => by
    obtain ⟨h1, h2⟩ := bytesB2 r
    have e : cellsOf encB (c :: r) = .int .u8 c.toNat :: cellsOf encB r := by simp [cellsOf, encB, AV.cells]
    rw [e]
    have := c.toNat_lt
    constructor
    · simp [bytesOk, h1]; omega
    · simp [bytesOf, h2]
theorem conv_tree {K : Heap} {o : AV} {b : List UInt8} (h : Sl encB o b) : aConvert Tryd.prog K 97 9 o = some (.str b, none) := by
  have h1 := h.elems encB_T K
  have h2 := (bytesB2 b).2
  cases h <;> simp [aConvert, Tryd.underlying97, Tryd.underlying9, Tryd.underlying5, h1, h2]
theorem elem_bs {K : Heap} {b ver : Nat} {s : List UInt8} (hg : hget K b ver = some (cellsOf encB s)) : elemCells K 1 (.bs ⟨b, ver, 0, s.length, 0, 1, false, false⟩) = some (s.length, cellsOf encB s) := by
  have hw : win (cellsOf encB s) 0 s.length = some (cellsOf encB s) := by
    have := cellsOf_drop encB_T s 0 (by simp)
    simpa using this
  simp [elemCells, hg, hw]
theorem conv_bs {K : Heap} {b ver : Nat} {s : List UInt8} (hg : hget K b ver = some (cellsOf encB s)) : aConvert Tryd.prog K 97 9 (.bs ⟨b, ver, 0, s.length, 0, 1, false, false⟩) = some (.str s, none) := by
  have h1 := elem_bs hg
  have h2 := (bytesB2 s).2
  simp [aConvert, Tryd.underlying97, Tryd.underlying9, Tryd.underlying5, h1, h2]
theorem snap_bs {K : Heap} {b ver : Nat} {s : List UInt8} (hg : hget K b ver = some (cellsOf encB s)) {r r' : List AV} (hr : snap K r = some (r', false)) : snap K (.bs ⟨b, ver, 0, s.length, 0, 1, false, false⟩ :: r) = some (.vs (s.map encB) false :: r', true) := by
  have hw : win (cellsOf encB s) 0 s.length = some (cellsOf encB s) := by
    have := cellsOf_drop encB_T s 0 (by simp)
    simpa using this
  have hc := chunk_cellsOf encB_T (by decide) s
  simp [snap, hg, hw, plB, hr, hc]
/-- bytes that grow from nil on. -/
def Bt (p : Nat) (K : Heap) (v : AV) (o : List UInt8) : Prop := (v = .nilS ∧ o = []) ∨ ∃ c ver, v = .bs ⟨c, ver, 0, o.length, 0, 1, false, false⟩ ∧ 0 < o.length ∧ p ≤ c ∧ ver % 4 = 2 ∧ hget K c ver = some (cellsOf encB o)
theorem Bt.more {p : Nat} {K : Heap} {v : AV} {o : List UInt8} (h : Bt p K v o) (l : List Blk) : Bt p (K ++ l) v o := by
  rcases h with h | ⟨c, ver, h1, h2, h3, h4, h5⟩
  · exact .inl h
  · exact .inr ⟨c, ver, h1, h2, h3, h4, hget_mono h5 _⟩
theorem Bt.conv {p : Nat} {K : Heap} {v : AV} {o : List UInt8} (h : Bt p K v o) : aConvert Tryd.prog K 97 9 v = some (.str o, none) := by
  rcases h with ⟨rfl, rfl⟩ | ⟨c, ver, rfl, h2, h3, h4, h5⟩
  · exact conv_tree .nil
  · exact conv_bs h5
theorem Bt.app {prot : Nat} {H : Heap} {buf : AV} {s : List UInt8} (h : Bt prot H buf s)
    {x : AV} {m : List UInt8} {xt : TypeId} (hxt : xt = 97 ∨ xt = 9) (hx : elemCells H 1 x = some (m.length, cellsOf encB m)) (hm : 0 < m.length) (hr : s.length + m.length ≤ 140737488355328) (hp : prot ≤ H.length) :
    ∃ v' H', aAppend Tryd.prog prot H #[97, xt] buf x = some (v', some H') ∧ Bt prot H' v' (s ++ m) ∧ H.length ≤ H'.length ∧ ∀ b' v cs, hget H b' v = some cs → v % 4 ≠ 2 → hget H' b' v = some cs := by
  have hl : (cellsOf encB m).all AV.leaf = true := cellsOf_leaf encB_T m
  have hm0 : ¬ m.length = 0 := by omega
  have hl' : ∀ y ∈ cellsOf encB m, y.leaf = true := List.all_eq_true.1 hl
  rcases h with ⟨rfl, rfl⟩ | ⟨c, ver, rfl, k1, k2, k3, k4⟩
  · refine ⟨_, H ++ [Blk.cells 2 (cellsOf encB m)], ?_, .inr ⟨H.length, 2, rfl, by simpa using hm, hp, rfl, by rw [hget_new rfl]; rfl⟩, by simp, fun b' v cs h _ => hget_mono h _⟩
    have hro : roomy m.length 1 = true := by simp [roomy] at hr ⊢; omega
    rcases hxt with rfl | rfl <;> simp [aAppend, Tryd.underlying97, Tryd.underlying9, se97, sz5, by5, ag5, ze5, AV.cells, hx, hm0, hro, rowV] <;> exact hl'
  · have hlt := hget_lt k4
    have hw : win (cellsOf encB s) 0 s.length = some (cellsOf encB s) := by
      have := cellsOf_drop encB_T s 0 (by simp)
      simpa using this
    have hro : roomy (s.length + m.length) 1 = true := by simp [roomy]; omega
    have hok : rowOk ver 0 5 = true := by
      have h1 : ver % 2 = 0 := by omega
      simp [rowOk, h1]
    refine ⟨.bs ⟨c, ver + 4, 0, (s ++ m).length, 0, 1, false, false⟩, H.set c (.cells (ver + 4) (cellsOf encB s ++ cellsOf encB m)), ?_, .inr ⟨c, ver + 4, rfl, by simp; omega, k2, by omega, ?_⟩, by simp, ?_⟩
    · rcases hxt with rfl | rfl <;> simp [aAppend, Tryd.underlying97, Tryd.underlying9, se97, sz5, by5, ag5, ze5, AV.cells, hx, hm0, hro, k4, hw, k2, hok] <;> exact hl'
    · rw [hget_set_same hlt, if_pos rfl, cellsOf_append]
    · intro b' v cs h hv
      have : b' ≠ c := fun e => by
        subst e
        have e1 := alive_of_hget h
        have e2 := alive_of_hget k4
        rw [e1] at e2
        injection (Option.some.inj e2) with e3 _
        omega
      rw [hget_set_ne this]; exact h
def TextR (k : Nat) (r : AV) : Option (List UInt8 × Nat) → Prop
  | none => ∃ i j, r = .tup [.str [], .int .i64 i, troub j 3]
  | some (b, n) => r = .tup [.str b, .int .i64 (k + n : Nat), .nilI]
theorem errNe (t : Nat) (v : AV) (xo yo : Operand) : aBin Tryd.prog .neq 77 xo yo (.iface t v) .nilI = some (.bool true) := iface_nil_ne Tryd.underlying77 _ _

theorem text_ok (s : List UInt8) (hl : s.length < 100000000000000) (k : Nat) (hk : k ≤ s.length) (prot : Nat) (H : Heap) (hp : prot ≤ H.length) :
    ∃ r, TextR k r (textS (s.drop k)) ∧ aLim cfg prot 41 [.str s, .int .i64 k] H = some (r, none) := by
  have hsnap : snap H [.str s, .int .i64 k] = some ([.str s, .int .i64 k], false) := rfl
  have hls : ∀ K, aLen Tryd.prog K 9 (.str s) = some (.int .i64 s.length) := fun K => str_len Tryd.underlying9 s K
  have hfe : ∀ (K : Heap) (i j : Int), Frz K H.length (packR [.str [], .int .i64 i, troub j 3]) (.tup [.str [], .int .i64 i, troub j 3]) := fun K i j => .tup (.cons (.still rfl) (.cons (.still rfl) (.cons (.iface (.still rfl)) .nil)))
  generalize hT : textS (s.drop k) = T
  refine pure_slimE rfl (by kernel_rfl) Tryd.func41 s41 hp hsnap (by simp [Tryd.f41]) fun fr hlen h => ?_
  simp only [Has, Nat.zero_add] at h
  obtain ⟨a0, a1, -⟩ := h
  simp only [Tryd.f41] at hlen ⊢
  unfold g41
  simp only [wk, aBuiltin, AV.cells, AV.leaf, Nat.reduceEqDiff, Nat.reduceLT, Nat.reduceAdd, Nat.reduceLeDiff, reduceCtorEq, Nat.reduceMul, Nat.reduceMod, cfgP, u41, hlen, a0, a1]
  refine loop_ruleP (fun m fr K => ∃ (i : Nat) (o : List UInt8) (v : AV), m = s.length - i ∧ k ≤ i ∧ i ≤ s.length ∧ o.length ≤ i - k ∧ fr.length = 94 ∧ fget fr 0 = .str s ∧ fget fr 1 = .int .i64 i ∧ fget fr 7 = v ∧ H.length ≤ K.length ∧ Bt H.length K v o ∧
    T = (textS (s.drop i)).map fun x => (o ++ x.1, i - k + x.2)) ?_ (s.length - k) _ _ ⟨k, [], .nilS, by simp [wk, aBuiltin, AV.cells, AV.leaf, Nat.reduceEqDiff, Nat.reduceLT, Nat.reduceAdd, Nat.reduceLeDiff, reduceCtorEq, Nat.reduceMul, Nat.reduceMod, cfgP, u41, hlen, a0, a1]; exact ⟨hk, .inl ⟨rfl, rfl⟩, hT.symm⟩⟩
  rintro m fr K ⟨i, o, v, rfl, hki, hi, hol, hlen, a0, a1, a7, hK, hB, hc⟩ ih
  by_cases hlt : i < s.length
  · have e1 := str_at (k := .i64) Tryd.underlying9 s hlt
    have hd : s.drop i = s[i] :: s.drop (i + 1) := List.drop_eq_getElem_cons hlt
    have hli : (i : Int) < (s.length : Nat) := by omega
    have hnl : ¬ (((s.length : Nat) : Int) ≤ i) := by omega
    have w1 : IntKind.i64.wrap ((i : Int) + 1) = ((i + 1 : Nat) : Int) := by rw [wrap64 (by omega) (by omega)]; simp
    have nw := wrong_ok i 3 H.length K hK
    rw [hd] at hc
    generalize s[i] = c at *
    by_cases c34 : c = 34
    · subst c34
      rw [show (((34 : UInt8).toNat : Nat) : Int) = 34 from rfl] at e1
      rw [textS_end] at hc
      simp only [Option.map_some, List.append_nil] at hc
      rw [hc]
      have dd : decide (¬ (34 : Int) = 34) = false := by decide
      simp only [wk, aBuiltin, AV.cells, AV.leaf, Nat.reduceEqDiff, Nat.reduceLT, Nat.reduceAdd, Nat.reduceLeDiff, reduceCtorEq, Nat.reduceMul, Nat.reduceMod, cfgP, u41, hlen, a0, a1, a7, hls, hli, hnl, e1, dd, none_beq, hB.conv, w1]
      refine ⟨_, show _ = _ from rfl, ?_⟩
      rw [show k + (i - k + 1) = i + 1 by omega]
      exact Fin_pure (l := [.str o, .int .i64 (i + 1 : Nat), .nilI]) (by simp [wk, aBuiltin, AV.cells, AV.leaf, Nat.reduceEqDiff, Nat.reduceLT, Nat.reduceAdd, Nat.reduceLeDiff, reduceCtorEq, Nat.reduceMul, Nat.reduceMod, cfgP, u41, hlen, aResults, aResult]) (.tup (.cons (.still rfl) (.cons (.still rfl) (.cons (.still rfl) .nil)))) (by simp)
    · have ne : ∀ d : UInt8, ¬ c = d → ¬ ((c.toNat : Int) = (d.toNat : Int)) := fun d hd h => hd (UInt8.toNat_inj.1 (by omega))
      have n34 : ¬ ((c.toNat : Int) = 34) := ne 34 c34
      have d34 : decide (¬ ((c.toNat : Int) = 34)) = true := decide_eq_true n34
      by_cases c32 : c.toNat < 32
      · rw [textS_low _ c34 c32] at hc
        simp only [Option.map_none] at hc
        rw [hc]
        have hlow : (c.toNat : Int) < 32 := by omega
        simp only [wk, aBuiltin, AV.cells, AV.leaf, Nat.reduceEqDiff, Nat.reduceLT, Nat.reduceAdd, Nat.reduceLeDiff, reduceCtorEq, Nat.reduceMul, Nat.reduceMod, cfgP, u41, hlen, a0, a1, a7, hls, hli, e1, d34, none_beq, hlow, nw]
        exact ⟨_, ⟨i, i, rfl⟩, Fin_pure (l := [.str [], .int .i64 i, troub i 3]) (by simp [wk, aBuiltin, AV.cells, AV.leaf, Nat.reduceEqDiff, Nat.reduceLT, Nat.reduceAdd, Nat.reduceLeDiff, reduceCtorEq, Nat.reduceMul, Nat.reduceMod, cfgP, u41, hlen, aResults, aResult]) (hfe _ _ _) (by simp)⟩
      · have hnlow : ¬ ((c.toNat : Int) < 32) := by omega
        by_cases c92 : c = 92
        · subst c92
          rw [show (((92 : UInt8).toNat : Nat) : Int) = 92 from rfl] at e1
          have dd : decide (¬ (92 : Int) = 34) = true := by decide
          have d2 : decide ((92 : Int) < 32) = false := by decide
          have ne1 := escaped_ok s (by omega) (i + 1) H.length K hK
          cases hes : escS (s.drop (i + 1)) with
          | none =>
            rw [hes] at ne1
            obtain ⟨j, ne1⟩ := ne1
            rw [textS_escE hes] at hc
            simp only [Option.map_none] at hc
            rw [hc]
            simp only [wk, aBuiltin, AV.cells, AV.leaf, Nat.reduceEqDiff, Nat.reduceLT, Nat.reduceAdd, Nat.reduceLeDiff, reduceCtorEq, Nat.reduceMul, Nat.reduceMod, cfgP, u41, hlen, a0, a1, a7, hls, hli, e1, dd, d2, none_beq, w1, ne1, troub, errNe]
            exact ⟨_, ⟨i, j, rfl⟩, Fin_pure (l := [.str [], .int .i64 i, troub j 3]) (by simp [wk, aBuiltin, AV.cells, AV.leaf, Nat.reduceEqDiff, Nat.reduceLT, Nat.reduceAdd, Nat.reduceLeDiff, reduceCtorEq, Nat.reduceMul, Nat.reduceMod, cfgP, u41, hlen, aResults, aResult, troub]) (hfe _ _ _) (by simp)⟩
          | some x =>
            obtain ⟨b, n⟩ := x
            rw [hes] at ne1
            have ne1 : aLim cfg H.length 53 [.str s, .int .i64 (i + 1 : Nat)] K = some (.tup [.vs (b.map encB) true, .int .i64 (i + 1 + n : Nat), .nilI], none) := ne1
            obtain ⟨hn1, hnl2, hbne⟩ := escS_pos hes
            simp only [List.length_drop] at hnl2
            have hbo := escS_out hes
            have hb0 : 0 < b.length := List.length_pos_iff.2 hbne
            rw [textS_esc hes, Option.map_map, List.drop_drop] at hc
            obtain ⟨v', K', ha, hB', hK', _⟩ := hB.app (x := .vs (b.map encB) true) (xt := 97) (.inl rfl) (elem_vs encB_T b true) hb0 (by omega) hK
            simp only [wk, aBuiltin, AV.cells, AV.leaf, Nat.reduceEqDiff, Nat.reduceLT, Nat.reduceAdd, Nat.reduceLeDiff, reduceCtorEq, Nat.reduceMul, Nat.reduceMod, cfgP, u41, hlen, a0, a1, a7, hls, hli, e1, dd, d2, none_beq, w1, ne1, nilNe, ha]
            refine ih _ _ (s.length - (i + 1 + n)) (by omega) ⟨i + 1 + n, o ++ b, v', rfl, by omega, by omega, ?_⟩
            simp [wk, aBuiltin, AV.cells, AV.leaf, Nat.reduceEqDiff, Nat.reduceLT, Nat.reduceAdd, Nat.reduceLeDiff, reduceCtorEq, Nat.reduceMul, Nat.reduceMod, cfgP, u41, hlen, a0]
            refine ⟨by omega, by omega, hB', ?_⟩
            rw [hc]
            have hf : ((fun x : List UInt8 × Nat => (o ++ x.1, i - k + x.2)) ∘ fun x : List UInt8 × Nat => (b ++ x.1, n + 1 + x.2)) = fun x => (o ++ b ++ x.1, i + 1 + n - k + x.2) := by
              funext x
              simp only [Function.comp, List.append_assoc, Prod.mk.injEq, true_and]
              omega
            rw [hf]
            simp only [List.append_assoc]
        · have n92 : ¬ ((c.toNat : Int) = 92) := ne 92 c92
          have w4 : IntKind.i64.wrap ((i : Int) + 4) = ((i + 4 : Nat) : Int) := by rw [wrap64 (by omega) (by omega)]; simp
          have hmin : ((min ((i + 4 : Nat) : Int) ((s.length : Nat) : Int)) : Int) = ((min (i + 4) s.length : Nat) : Int) := by omega
          have e2 := str_mid (k := .i64) (k' := .i64) Tryd.underlying9 s (a := i) (b := min (i + 4) s.length) (by omega) (by omega)
          have hq : (s.drop i).take (min (i + 4) s.length - i) = (s.drop i).take 4 := by
            by_cases h4 : i + 4 ≤ s.length
            · rw [show min (i + 4) s.length - i = 4 by omega]
            · rw [List.take_of_length_le (by simp; omega), List.take_of_length_le (by simp; omega)]
          rw [hq] at e2
          rw [← hd] at hc
          have hrune := fun h => textS_rune (c := c) (t := s.drop (i + 1)) c34 c32 c92 h
          have hbad := fun h => textS_bad (c := c) (t := s.drop (i + 1)) c34 c32 c92 h
          rw [← hd] at hrune hbad
          have cv := conv_sb Tryd.underlying9 Tryd.underlying97 Tryd.underlying5 K ((s.drop i).take 4)
          have hg : hget (K ++ [Blk.cells 0 (cellsOf encB ((s.drop i).take 4))]) K.length 0 = some (cellsOf encB ((s.drop i).take 4)) := by rw [hget_new rfl, if_pos rfl]
          have n3 := next_ok ((s.drop i).take 4) _ _ true (.vs _ _) (by simp; omega) H.length (K ++ [Blk.cells 0 (cellsOf encB ((s.drop i).take 4))]) (by simp; omega) (snap_bs hg (r := []) (r' := []) rfl)
          have hpos := nextU_pos (b := (s.drop i).take 4)
          have hl4 : ((s.drop i).take 4).length ≤ s.length - i := by simp; omega
          have hB2 := hB.more [Blk.cells 0 (cellsOf encB ((s.drop i).take 4))]
          have hlK : (K ++ [Blk.cells 0 (cellsOf encB ((s.drop i).take 4))]).length = K.length + 1 := by simp
          generalize K ++ [Blk.cells 0 (cellsOf encB ((s.drop i).take 4))] = K2 at *
          generalize nextU ((s.drop i).take 4) = q at *
          obtain ⟨ru, w, e⟩ := q
          simp only at hpos n3 hrune hbad
          have nw2 := wrong_ok i 3 H.length K2 (by omega)
          by_cases he : e = 0
          · subst he
            obtain ⟨hw0, hwl⟩ := hpos rfl
            have ww : IntKind.i64.wrap ((i : Int) + (w : Int)) = ((i + w : Nat) : Int) := by rw [wrap64 (by omega) (by omega)]; simp
            have e3 := str_mid (k := .i64) (k' := .i64) Tryd.underlying9 s (a := i) (b := i + w) (by omega) (by omega)
            rw [show i + w - i = w by omega] at e3
            have hml : ((s.drop i).take w).length = w := by simp; omega
            rw [hrune rfl, Option.map_map, List.drop_drop] at hc
            obtain ⟨v', K', ha, hB', hK', _⟩ := hB2.app (x := .str ((s.drop i).take w)) (m := (s.drop i).take w) (xt := 9) (.inr rfl) (by simp only [elemCells, cellsB, if_true]) (by omega) (by omega) (by omega : H.length ≤ K2.length)
            have dz : decide (¬ (0 : Int) = 0) = false := by decide
            simp only [wk, aBuiltin, AV.cells, AV.leaf, Nat.reduceEqDiff, Nat.reduceLT, Nat.reduceAdd, Nat.reduceLeDiff, reduceCtorEq, Nat.reduceMul, Nat.reduceMod, cfgP, u41, hlen, a0, a1, a7, hls, hli, e1, d34, n92, hnlow, none_beq, w4, hmin, e2, cv, n3, dz, ww, e3, ha]
            refine ih _ _ (s.length - (i + w)) (by omega) ⟨i + w, o ++ (s.drop i).take w, v', rfl, by omega, by omega, ?_⟩
            simp [wk, aBuiltin, AV.cells, AV.leaf, Nat.reduceEqDiff, Nat.reduceLT, Nat.reduceAdd, Nat.reduceLeDiff, reduceCtorEq, Nat.reduceMul, Nat.reduceMod, cfgP, u41, hlen, a0]
            refine ⟨by omega, by omega, hB', ?_⟩
            rw [hc]
            have hf : ((fun x : List UInt8 × Nat => (o ++ x.1, i - k + x.2)) ∘ fun x : List UInt8 × Nat => ((s.drop i).take w ++ x.1, w + x.2)) = fun x => (o ++ (s.drop i).take w ++ x.1, i + w - k + x.2) := by
              funext x
              simp only [Function.comp, List.append_assoc, Prod.mk.injEq, true_and]
              omega
            rw [hf]
            simp only [List.append_assoc]
          · have hne0 : decide (¬ e = 0) = true := decide_eq_true he
            rw [hbad he, Option.map_none] at hc
            rw [hc]
            simp only [wk, aBuiltin, AV.cells, AV.leaf, Nat.reduceEqDiff, Nat.reduceLT, Nat.reduceAdd, Nat.reduceLeDiff, reduceCtorEq, Nat.reduceMul, Nat.reduceMod, cfgP, u41, hlen, a0, a1, a7, hls, hli, e1, d34, n92, hnlow, none_beq, w4, hmin, e2, cv, n3, hne0, nw2]
            exact ⟨_, ⟨i, i, rfl⟩, Fin_pure (l := [.str [], .int .i64 i, troub i 3]) (by simp [wk, aBuiltin, AV.cells, AV.leaf, Nat.reduceEqDiff, Nat.reduceLT, Nat.reduceAdd, Nat.reduceLeDiff, reduceCtorEq, Nat.reduceMul, Nat.reduceMod, cfgP, u41, hlen, aResults, aResult]) (hfe _ _ _) (by simp)⟩
  · have hd : s.drop i = [] := by simp; omega
    have hnli : ¬ ((i : Int) < (s.length : Nat)) := by omega
    have hge : (((s.length : Nat) : Int) ≤ i) := by omega
    have nw := wrong_ok i 3 H.length K hK
    rw [hd, textS_nil, Option.map_none] at hc
    rw [hc]
    simp only [wk, aBuiltin, AV.cells, AV.leaf, Nat.reduceEqDiff, Nat.reduceLT, Nat.reduceAdd, Nat.reduceLeDiff, reduceCtorEq, Nat.reduceMul, Nat.reduceMod, cfgP, u41, hlen, a0, a1, a7, hls, hnli, hge, none_beq, nw]
    exact ⟨_, ⟨i, i, rfl⟩, Fin_pure (l := [.str [], .int .i64 i, troub i 3]) (by simp [wk, aBuiltin, AV.cells, AV.leaf, Nat.reduceEqDiff, Nat.reduceLT, Nat.reduceAdd, Nat.reduceLeDiff, reduceCtorEq, Nat.reduceMul, Nat.reduceMod, cfgP, u41, hlen, aResults, aResult]) (hfe _ _ _) (by simp)⟩
end Go.Proofs.YtimbhlbkidmplaaDoor
/- num.Parse, walked. -/
namespace Go.Proofs.YtimbhlbkidmplaaDoor
open Go Go.Abs AbsSeat Ty

theorem u55 : type_of% (And.intro (fun (K : Heap) (n : Int) => conv_int Tryd.underlying5 Tryd.underlying102 K n) (And.intro (fun (K : Heap) (n : Int) => conv_int Tryd.underlying102 Tryd.underlying2 K n) (And.intro ag2 (And.intro sz2 (And.intro by2 (And.intro ze2 (And.intro Tryd.underlying2 (And.intro ag3 (And.intro sz3 (And.intro by3 (And.intro ze3 (And.intro Tryd.underlying3 (And.intro ag5 (And.intro sz5 (And.intro by5 (And.intro ze5 (And.intro Tryd.underlying5 (And.intro ag9 (And.intro sz9 (And.intro by9 (And.intro ze9 (And.intro Tryd.underlying9 (And.intro ag33 (And.intro sz33 (And.intro by33 (And.intro ze33 (And.intro Tryd.underlying33 (And.intro ag75 (And.intro sz75 (And.intro by75 (And.intro ze75 (And.intro Tryd.underlying75 (And.intro ag102 (And.intro sz102 (And.intro by102 (And.intro ze102 Tryd.underlying102)))))))))))))))))))))))))))))))))))) := And.intro (fun (K : Heap) (n : Int) => conv_int Tryd.underlying5 Tryd.underlying102 K n) (And.intro (fun (K : Heap) (n : Int) => conv_int Tryd.underlying102 Tryd.underlying2 K n) (And.intro ag2 (And.intro sz2 (And.intro by2 (And.intro ze2 (And.intro Tryd.underlying2 (And.intro ag3 (And.intro sz3 (And.intro by3 (And.intro ze3 (And.intro Tryd.underlying3 (And.intro ag5 (And.intro sz5 (And.intro by5 (And.intro ze5 (And.intro Tryd.underlying5 (And.intro ag9 (And.intro sz9 (And.intro by9 (And.intro ze9 (And.intro Tryd.underlying9 (And.intro ag33 (And.intro sz33 (And.intro by33 (And.intro ze33 (And.intro Tryd.underlying33 (And.intro ag75 (And.intro sz75 (And.intro by75 (And.intro ze75 (And.intro Tryd.underlying75 (And.intro ag102 (And.intro sz102 (And.intro by102 (And.intro ze102 Tryd.underlying102)))))))))))))))))))))))))))))))))))
def g55 : Code :=
  .seq (.region 0 #[q 4 (.assign (.const (.bool false))) 4] false) (.seq (.seq (.region 1 #[q 5 (.assign (ik 0)) 3] false) (.block 0 (.loop (.seq (.seq (.region 2 #[q 6 (.move (.tmp 1)) 75, q 7 (.binOp .neq 75 (.tmp 6) (.const .nilFunc) 75) 4, q 8 (.move (.tmp 7)) 4, qg 9 (.move (.tmp 5)) 3 2 true, qg 10 (.move (.tmp 0)) 9 2 true, qg 11 (bi .len #[.tmp 10] #[9]) 3 2 true, qg 12 (.binOp .lss 3 (.tmp 9) (.tmp 11) 3) 4 2 true, q 13 (.pick (.tmp 8) (.tmp 12) (.const (.bool false))) 4] false) (.cond (.tmp 13) .skip (.exit 0))) (.seq (.block 1 (.seq (.region 4 #[q 16 (.move (.tmp 1)) 75, q 17 (.move (.tmp 0)) 9, q 18 (.move (.tmp 5)) 3, q 19 (.index 9 (.tmp 17) (.tmp 18)) 5, q 20 (cv (.tmp 16) #[.tmp 19] #[5]) 4, q 21 (.unOp .not 4 (.tmp 20)) 4] false) (.cond (.tmp 21) (.seq (.region 5 #[q 4 (.assign (.const (.bool false))) 4] false) .ret) .skip))) (.region 3 #[q 14 (.move (.tmp 5)) 3, q 15 (.binOp .add 3 (.tmp 14) (ik 1) 3) 3, q 5 (.assign (.tmp 15)) 3] false)))))) (.seq (.region 6 #[q 22 (.move (.tmp 1)) 75, q 23 (.binOp .neq 75 (.tmp 22) (.const .nilFunc) 75) 4, q 4 (.assign (.tmp 23)) 4] false) .ret))
theorem s55 : Tryd.f55.body.map (slim cfg) = some g55 := by kernel_rfl
def g56 : Code :=
  .seq (.region 0 #[q 4 (.assign (.const (.int .u64 0))) 102, q 5 (.assign (ik 0)) 33] false) (.seq (.region 1 #[q 6 (.assign (.const (.int .u64 0))) 102] false) (.seq (.seq (.region 2 #[q 9 (.move (.tmp 0)) 9, q 10 (bi .len #[.tmp 9] #[9]) 3, q 11 (.move (ik 0)) 3] false) (.block 0 (.loop (.seq (.region 3 #[q 12 (.binOp .lss 3 (.tmp 11) (.tmp 10) 3) 4] false) (.seq (.cond (.tmp 12) .skip (.exit 0)) (.seq (.block 1 (.seq (.region 4 #[q 13 (.move (.tmp 11)) 3, q 7 (.assign (.tmp 13)) 3] false) (.seq (.region 5 #[q 14 (.move (.tmp 0)) 9, q 15 (.move (.tmp 7)) 3, q 16 (.index 9 (.tmp 14) (.tmp 15)) 5, q 17 (.binOp .sub 5 (.tmp 16) (.const (.int .u8 48)) 5) 5, q 18 (.convert 5 102 (.tmp 17)) 102, q 8 (.assign (.tmp 18)) 102] false) (.seq (.seq (.region 6 #[q 19 (.move (.tmp 6)) 102, q 20 (.move (.tmp 1)) 102, q 21 (.move (.tmp 8)) 102, q 22 (.binOp .sub 102 (.tmp 20) (.tmp 21) 102) 102, q 23 (.binOp .quo 102 (.tmp 22) (.const (.int .u64 10)) 102) 102, q 24 (.binOp .gtr 102 (.tmp 19) (.tmp 23) 102) 4] false) (.cond (.tmp 24) (.seq (.region 7 #[q 4 (.assign (.const (.int .u64 0))) 102, q 5 (.assign (ik 5)) 33] false) .ret) .skip)) (.region 8 #[q 25 (.move (.tmp 6)) 102, q 26 (.binOp .mul 102 (.tmp 25) (.const (.int .u64 10)) 102) 102, q 27 (.move (.tmp 8)) 102, q 28 (.binOp .add 102 (.tmp 26) (.tmp 27) 102) 102, q 6 (.assign (.tmp 28)) 102] false))))) (.region 9 #[q 29 (.binOp .add 3 (.tmp 11) (ik 1) 3) 3, q 11 (.move (.tmp 29)) 3] false))))))) (.seq (.region 10 #[q 30 (.move (.tmp 6)) 102, q 4 (.assign (.tmp 30)) 102, q 5 (.assign (ik 0)) 33] false) .ret)))
theorem s56 : Tryd.f56.body.map (slim cfg) = some g56 := by kernel_rfl
def g44 : Code :=
  .seq (.region 0 #[q 2 (.assign (ik 0)) 2, q 3 (.assign (ik 0)) 33] false) (.seq (.region 1 #[q 8 (.move (.tmp 0)) 9, q 9 (bi .len #[.tmp 8] #[9]) 3, q 10 (.binOp .gtr 3 (.tmp 9) (ik 0) 3) 4, q 11 (.move (.tmp 10)) 4, qg 12 (.move (.tmp 0)) 9 3 true, qg 13 (.index 9 (.tmp 12) (ik 0)) 5 3 true, qg 14 (.binOp .eql 5 (.tmp 13) (.const (.int .u8 45)) 5) 4 3 true, q 15 (.pick (.tmp 11) (.tmp 14) (.const (.bool false))) 4, q 4 (.assign (.tmp 15)) 4] false) (.seq (.region 2 #[q 5 (.assign (.const (.int .u64 9223372036854775807))) 102] false) (.seq (.seq (.region 3 #[q 16 (.move (.tmp 4)) 4] false) (.cond (.tmp 16) (.seq (.region 4 #[q 17 (.move (.tmp 0)) 9, q 18 (.slice 9 (.tmp 17) (some (ik 1)) none none) 9, q 0 (.assign (.tmp 18)) 9] false) (.region 5 #[q 19 (.move (.tmp 5)) 102, q 20 (.binOp .add 102 (.tmp 19) (.const (.int .u64 1)) 102) 102, q 5 (.assign (.tmp 20)) 102] false)) .skip)) (.seq (.seq (.region 6 #[q 21 (.move (.tmp 0)) 9, q 22 (.binOp .eql 9 (.tmp 21) (.const (.string { data := #[] })) 9) 4, q 23 (.move (.tmp 22)) 4, qg 24 (.move (.tmp 0)) 9 2 false, qg 25 (cl 55 #[.tmp 24, .func 42] #[9, 75]) 4 2 false, qg 26 (.unOp .not 4 (.tmp 25)) 4 2 false, q 27 (.pick (.tmp 23) (.const (.bool true)) (.tmp 26)) 4, q 28 (.move (.tmp 27)) 4, qg 29 (.move (.tmp 0)) 9 7 false, qg 30 (bi .len #[.tmp 29] #[9]) 3 7 false, qg 31 (.binOp .gtr 3 (.tmp 30) (ik 1) 3) 4 7 false, qg 32 (.move (.tmp 31)) 4 7 false, qg 33 (.move (.tmp 0)) 9 11 true, qg 34 (.index 9 (.tmp 33) (ik 0)) 5 11 true, qg 35 (.binOp .eql 5 (.tmp 34) (.const (.int .u8 48)) 5) 4 11 true, qg 36 (.pick (.tmp 32) (.tmp 35) (.const (.bool false))) 4 7 false, q 37 (.pick (.tmp 28) (.const (.bool true)) (.tmp 36)) 4] false) (.cond (.tmp 37) (.seq (.region 7 #[q 2 (.assign (ik 0)) 2, q 3 (.assign (ik 3)) 33] false) .ret) .skip)) (.seq (.region 8 #[q 39 (.move (.tmp 0)) 9, q 40 (.move (.tmp 5)) 102, q 41 (cl 56 #[.tmp 39, .tmp 40] #[9, 102]) 104, q 38 (.move (.tmp 41)) 104, q 42 (.extract (.tmp 38) 0) 102, q 43 (.extract (.tmp 38) 1) 33, q 6 (.assign (.tmp 42)) 102, q 7 (.assign (.tmp 43)) 33] false) (.seq (.seq (.region 9 #[q 44 (.move (.tmp 7)) 33, q 45 (.binOp .neq 33 (.tmp 44) (ik 0) 33) 4] false) (.cond (.tmp 45) (.seq (.region 10 #[q 46 (.move (.tmp 7)) 33, q 2 (.assign (ik 0)) 2, q 3 (.assign (.tmp 46)) 33] false) .ret) .skip)) (.seq (.seq (.region 11 #[q 47 (.move (.tmp 4)) 4] false) (.cond (.tmp 47) (.seq (.region 12 #[q 48 (.move (.tmp 6)) 102, q 49 (.unOp .neg 102 (.tmp 48)) 102, q 50 (.convert 102 2 (.tmp 49)) 2, q 2 (.assign (.tmp 50)) 2, q 3 (.assign (ik 0)) 33] false) .ret) .skip)) (.seq (.region 13 #[q 51 (.move (.tmp 6)) 102, q 52 (.convert 102 2 (.tmp 51)) 2, q 2 (.assign (.tmp 52)) 2, q 3 (.assign (ik 0)) 33] false) .ret))))))))
theorem s44 : Tryd.f44.body.map (slim cfg) = some g44 := by kernel_rfl

theorem allF_ok (f : Nat) (p : Int → Bool) (hf : ∀ (c : UInt8) (prot : Nat) (H : Heap), prot ≤ H.length → aLim cfg prot f [.int .u8 c.toNat] H = some (.bool (p c.toNat), none)) (s : List UInt8) (hl : s.length ≤ 9223372036854775807) (prot : Nat) (H : Heap) (hp : prot ≤ H.length) :
    aLim cfg prot 55 [.str s, .func f [] []] H = some (.bool (s.all fun c => p c.toNat), none) := by
  have hsnap : snap H [.str s, .func f [] []] = some ([.str s, .func f [] []], false) := rfl
  have fnn : ∀ (K : Heap) (xo yo : Operand), aBinH Tryd.prog K .neq 75 xo yo (.func f [] []) .nilF = some (.bool true) := fun K xo yo => by simp [aBinH, aBin, aNilNe, Tryd.underlying75]
  refine pure_slim rfl (by kernel_rfl) Tryd.func55 s55 hp hsnap (by simp [Tryd.f55]) fun fr hlen h => ?_
  simp only [Has, Nat.zero_add] at h
  obtain ⟨a0, a1, -⟩ := h
  simp only [Tryd.f55] at hlen ⊢
  unfold g55
  simp only [wk, aBuiltin, AV.cells, AV.leaf, Nat.reduceEqDiff, Nat.reduceLT, Nat.reduceAdd, Nat.reduceLeDiff, reduceCtorEq, Nat.reduceMul, Nat.reduceMod, cfgP, u55, hlen, a0, a1]
  refine loop_rule (fun m fr H' => ∃ (i : Nat), m = s.length - i ∧ i ≤ s.length ∧ fr.length = 24 ∧ fget fr 0 = .str s ∧ fget fr 1 = .func f [] [] ∧ fget fr 5 = .int .i64 i ∧ H' = H
    ∧ (s.all fun c => p c.toNat) = ((s.drop i).all fun c => p c.toNat)) ?_ s.length _ _ ⟨0, by simp [wk, aBuiltin, AV.cells, AV.leaf, Nat.reduceEqDiff, Nat.reduceLT, Nat.reduceAdd, Nat.reduceLeDiff, reduceCtorEq, Nat.reduceMul, Nat.reduceMod, cfgP, u55, hlen, a0, a1]⟩
  rintro m fr H' ⟨i, rfl, hi, hlen, a0, a1, a5, rfl, hc⟩ ih
  simp only [wk, aBuiltin, AV.cells, AV.leaf, Nat.reduceEqDiff, Nat.reduceLT, Nat.reduceAdd, Nat.reduceLeDiff, reduceCtorEq, Nat.reduceMul, Nat.reduceMod, cfgP, u55, hlen, a0, a1, a5, fnn, str_len Tryd.underlying9]
  refine RC_split (fun h => ?_) (fun h => ?_)
  · have hlt : i < s.length := by simpa using h
    have hw : IntKind.i64.wrap ((i : Int) + 1) = ((i + 1 : Nat) : Int) := by rw [wrap64 (by omega) (by omega)]; simp
    have e1 := str_at (P := Tryd.prog) Tryd.underlying9 s (k := .i64) hlt
    have hd : s.drop i = s[i] :: s.drop (i + 1) := by simp
    rw [hd, List.all_cons] at hc
    generalize s[i] = x at *
    have n1 := hf x H'.length H' (Nat.le_refl _)
    cases hx : p (x.toNat : Int) with
    | true =>
      rw [hx] at n1 hc
      simp only [wk, aBuiltin, AV.cells, AV.leaf, Nat.reduceEqDiff, Nat.reduceLT, Nat.reduceAdd, Nat.reduceLeDiff, reduceCtorEq, Nat.reduceMul, Nat.reduceMod, cfgP, u55, hlen, a0, a1, a5, e1, n1, hw]
      refine ih _ _ (s.length - (i + 1)) (by omega) ⟨i + 1, rfl, hlt, ?_⟩
      rw [hc]
      simp [wk, aBuiltin, AV.cells, AV.leaf, Nat.reduceEqDiff, Nat.reduceLT, Nat.reduceAdd, Nat.reduceLeDiff, reduceCtorEq, Nat.reduceMul, Nat.reduceMod, cfgP, u55, hlen, a0, a1]
    | false =>
      rw [hx] at n1 hc
      simp only [wk, aBuiltin, AV.cells, AV.leaf, Nat.reduceEqDiff, Nat.reduceLT, Nat.reduceAdd, Nat.reduceLeDiff, reduceCtorEq, Nat.reduceMul, Nat.reduceMod, cfgP, u55, hlen, a0, a1, a5, e1, n1]
      rw [hc]
      simp only [Bool.false_and]
      exact Fin_pure (l := [.bool false]) (by simp [wk, aBuiltin, AV.cells, AV.leaf, Nat.reduceEqDiff, Nat.reduceLT, Nat.reduceAdd, Nat.reduceLeDiff, reduceCtorEq, Nat.reduceMul, Nat.reduceMod, cfgP, u55, aResults, aResult, hlen]) (.still rfl) (by simp)
  · have hnl : ¬ i < s.length := by simpa using h
    have hd : s.drop i = [] := by simp; omega
    rw [hd] at hc
    rw [hc]
    simp only [wk, aBuiltin, AV.cells, AV.leaf, Nat.reduceEqDiff, Nat.reduceLT, Nat.reduceAdd, Nat.reduceLeDiff, reduceCtorEq, Nat.reduceMul, Nat.reduceMod, cfgP, u55, hlen, a0, a1, fnn, List.all_nil]
    exact Fin_pure (l := [.bool true]) (by simp [wk, aBuiltin, AV.cells, AV.leaf, Nat.reduceEqDiff, Nat.reduceLT, Nat.reduceAdd, Nat.reduceLeDiff, reduceCtorEq, Nat.reduceMul, Nat.reduceMod, cfgP, u55, aResults, aResult, hlen]) (.still rfl) (by simp)

/-- the number of digits, if it is not above one. -/
def digGo (most : Nat) : Nat → List UInt8 → Option Nat
  | v, [] => some v
  | v, c :: r => if (most - (c.toNat - 48)) / 10 < v then none else digGo most (v * 10 + (c.toNat - 48)) r
def dig2 : Option Nat → AV
  | some v => .tup [.int .u64 v, .int .i64 0]
  | none => .tup [.int .u64 0, .int .i64 5]

theorem digits_ok (s : List UInt8) (most : Nat) (hs : ∀ c ∈ s, digitC c.toNat = true) (hm : 9 ≤ most) (hm2 : most < 18446744073709551616) (hl : s.length ≤ 9223372036854775807) (prot : Nat) (H : Heap) (hp : prot ≤ H.length) :
    aLim cfg prot 56 [.str s, .int .u64 most] H = some (dig2 (digGo most 0 s), none) := by
  have hsnap : snap H [.str s, .int .u64 most] = some ([.str s, .int .u64 most], false) := rfl
  have hfz : ∀ (K : Heap) (x y : AV), still x = true → still y = true → Frz K H.length (packR [x, y]) (.tup [x, y]) := fun K x y h1 h2 => .tup (.cons (.still h1) (.cons (.still h2) .nil))
  refine pure_slim rfl (by kernel_rfl) Tryd.func56 s56 hp hsnap (by simp [Tryd.f56]) fun fr hlen h => ?_
  simp only [Has, Nat.zero_add] at h
  obtain ⟨a0, a1, -⟩ := h
  simp only [Tryd.f56] at hlen ⊢
  unfold g56
  simp only [wk, aBuiltin, AV.cells, AV.leaf, Nat.reduceEqDiff, Nat.reduceLT, Nat.reduceAdd, Nat.reduceLeDiff, reduceCtorEq, Nat.reduceMul, Nat.reduceMod, cfgP, u55, hlen, a0, a1, str_len Tryd.underlying9]
  refine loop_rule (fun m fr H' => ∃ (i v : Nat), m = s.length - i ∧ i ≤ s.length ∧ fr.length = 31 ∧ fget fr 0 = .str s ∧ fget fr 1 = .int .u64 most ∧ fget fr 6 = .int .u64 v ∧ fget fr 10 = .int .i64 s.length ∧ fget fr 11 = .int .i64 i ∧ v ≤ most
    ∧ digGo most 0 s = digGo most v (s.drop i)) ?_ s.length _ _ ⟨0, 0, by simp [wk, aBuiltin, AV.cells, AV.leaf, Nat.reduceEqDiff, Nat.reduceLT, Nat.reduceAdd, Nat.reduceLeDiff, reduceCtorEq, Nat.reduceMul, Nat.reduceMod, cfgP, u55, hlen, a0, a1]⟩
  rintro m fr K ⟨i, v, rfl, hi, hlen, a0, a1, a6, a10, a11, hv, hc⟩ ih
  simp only [wk, aBuiltin, AV.cells, AV.leaf, Nat.reduceEqDiff, Nat.reduceLT, Nat.reduceAdd, Nat.reduceLeDiff, reduceCtorEq, Nat.reduceMul, Nat.reduceMod, cfgP, u55, hlen, a0, a1, a6, a10, a11]
  refine RC_split (fun h => ?_) (fun h => ?_)
  · have hlt : i < s.length := by simpa using h
    have hww : IntKind.i64.wrap ((i : Int) + 1) = ((i + 1 : Nat) : Int) := by rw [wrap64 (by omega) (by omega)]; simp
    have e1 := str_at (P := Tryd.prog) Tryd.underlying9 s (k := .i64) hlt
    have hd := hs s[i] (List.getElem_mem hlt)
    rw [List.drop_eq_getElem_cons hlt, digGo] at hc
    generalize s[i] = c at *
    have hd : 48 ≤ c.toNat ∧ c.toNat ≤ 57 := by unfold digitC at hd; simp at hd; omega
    obtain ⟨d, hcd, hd9⟩ : ∃ d : Nat, c.toNat = d + 48 ∧ d ≤ 9 := ⟨c.toNat - 48, by omega, by omega⟩
    have ed : c.toNat - 48 = d := by omega
    rw [ed] at hc
    have w1 : IntKind.u8.wrap ((c.toNat : Int) - 48) = (d : Int) := by
      rw [hcd]
      simp [IntKind.wrap, IntKind.bits, IntKind.signed]; omega
    have w2 : IntKind.u64.wrap ((d : Nat) : Int) = (d : Int) := wrapu64 (by omega) (by omega)
    have w3 : IntKind.u64.wrap ((most : Int) - (d : Nat)) = ((most - d : Nat) : Int) := by rw [wrapu64 (by omega) (by omega)]; omega
    have q1 : ∀ xo yo, aBin Tryd.prog .quo 102 xo yo (.int .u64 ((most - d : Nat) : Int)) (.int .u64 10) = some (.int .u64 (((most - d) / 10 : Nat) : Int)) := fun xo yo => by
      have h1 := Nat.div_le_self (most - d) 10
      rw [show (10 : Int) = ((10 : Nat) : Int) from rfl, bin_quo_nat (by omega)]
      generalize (most - d) / 10 = y at *
      rw [wrapu64 (by omega) (by omega)]
    by_cases hgt : (most - d) / 10 < v
    · have c1 : decide ((((most - d) / 10 : Nat) : Int) < (v : Nat)) = true := decide_eq_true (by omega)
      rw [if_pos hgt] at hc
      rw [hc]
      simp only [wk, aBuiltin, AV.cells, AV.leaf, Nat.reduceEqDiff, Nat.reduceLT, Nat.reduceAdd, Nat.reduceLeDiff, reduceCtorEq, Nat.reduceMul, Nat.reduceMod, cfgP, u55, hlen, a0, a1, a6, a10, a11, e1, w1, w2, w3, q1, c1]
      exact Fin_pure (l := [.int .u64 0, .int .i64 5]) (by simp [wk, aBuiltin, AV.cells, AV.leaf, Nat.reduceEqDiff, Nat.reduceLT, Nat.reduceAdd, Nat.reduceLeDiff, reduceCtorEq, Nat.reduceMul, Nat.reduceMod, cfgP, u55, hlen, aResults, aResult]) (hfz _ _ _ rfl rfl) (by simp [dig2, flat, flat1, flat0])
    · have c1 : decide ((((most - d) / 10 : Nat) : Int) < (v : Nat)) = false := decide_eq_false (by omega)
      rw [if_neg hgt] at hc
      have w4 : IntKind.u64.wrap ((v : Int) * 10) = ((v * 10 : Nat) : Int) := by rw [wrapu64 (by omega) (by omega)]; simp
      have w5 : IntKind.u64.wrap (((v * 10 : Nat) : Int) + (d : Nat)) = ((v * 10 + d : Nat) : Int) := by rw [wrapu64 (by omega) (by omega)]; simp
      simp only [wk, aBuiltin, AV.cells, AV.leaf, Nat.reduceEqDiff, Nat.reduceLT, Nat.reduceAdd, Nat.reduceLeDiff, reduceCtorEq, Nat.reduceMul, Nat.reduceMod, cfgP, u55, hlen, a0, a1, a6, a10, a11, e1, w1, w2, w3, q1, c1, w4, w5, hww]
      refine ih _ _ (s.length - (i + 1)) (by omega) ⟨i + 1, v * 10 + d, rfl, hlt, ?_⟩
      have hle : v * 10 + d ≤ most := by
        have := Nat.div_add_mod (most - d) 10
        omega
      rw [hc]
      simp [wk, aBuiltin, AV.cells, AV.leaf, Nat.reduceEqDiff, Nat.reduceLT, Nat.reduceAdd, Nat.reduceLeDiff, reduceCtorEq, Nat.reduceMul, Nat.reduceMod, cfgP, u55, hlen, a0, a1, a10, hle]
  · have hnl : ¬ i < s.length := by simpa using h
    rw [List.drop_eq_nil_of_le (by omega), digGo] at hc
    rw [hc]
    simp only [wk, aBuiltin, AV.cells, AV.leaf, Nat.reduceEqDiff, Nat.reduceLT, Nat.reduceAdd, Nat.reduceLeDiff, reduceCtorEq, Nat.reduceMul, Nat.reduceMod, cfgP, u55, hlen, a0, a1, a6, a10, a11]
    exact Fin_pure (l := [.int .u64 v, .int .i64 0]) (by simp [wk, aBuiltin, AV.cells, AV.leaf, Nat.reduceEqDiff, Nat.reduceLT, Nat.reduceAdd, Nat.reduceLeDiff, reduceCtorEq, Nat.reduceMul, Nat.reduceMod, cfgP, u55, hlen, aResults, aResult]) (hfz _ _ _ rfl rfl) (by simp [dig2, flat, flat1, flat0])
theorem digGo_le (most : Nat) : ∀ (s : List UInt8) (v x : Nat), v ≤ most → 9 ≤ most → (∀ c ∈ s, digitC c.toNat = true) → digGo most v s = some x → x ≤ most
  | [], v, x, hv, _, _, h => by simp only [digGo, Option.some.injEq] at h; omega
  | c :: r, v, x, hv, hm, hs, h => by
    have hd := hs c (by simp)
    have hd : 48 ≤ c.toNat ∧ c.toNat ≤ 57 := by unfold digitC at hd; simp at hd; omega
    rw [digGo] at h
    split at h
    · cases h
    · exact digGo_le most r _ x (by omega) hm (fun d hd => hs d (by simp [hd])) h
/-- a whole number behind its sign. -/
def numD (minus : Bool) (d : List UInt8) : Int × Int :=
  if d = [] ∨ (d.all fun c => digitC c.toNat) = false ∨ (1 < d.length ∧ d.head? = some 48) then (0, 3)
  else match digGo (if minus then 9223372036854775808 else 9223372036854775807) 0 d with
    | none => (0, 5)
    | some v => (if minus then -(v : Int) else v, 0)
def numS (s : List UInt8) : Int × Int := if s.head? = some 45 then numD true (s.drop 1) else numD false s
theorem neg64 {v : Nat} (h : v ≤ 9223372036854775808) : IntKind.i64.wrap (IntKind.u64.wrap (0 - (v : Int))) = -(v : Int) := by
  simp only [IntKind.wrap, IntKind.signed, IntKind.bits]; simp; omega
theorem pos64 {v : Nat} (h : v ≤ 9223372036854775807) : IntKind.i64.wrap (v : Int) = (v : Int) := wrap64 (by omega) (by omega)
theorem unop_neg (P : Program) (k : IntKind) (a : Int) : ((toV1 (.int k a)).bind fun v => (pureOf P (Op.unary .neg v)).bind ofV1) = some (.int k (k.wrap (0 - a))) := rfl

theorem parse_ok (s : List UInt8) (hl : s.length < 100000000000000) (prot : Nat) (H : Heap) (hp : prot ≤ H.length) : aLim cfg prot 44 [.str s] H = some (.tup [.int .i64 (numS s).1, .int .i64 (numS s).2], none) := by
  have hsnap : snap H [.str s] = some ([.str s], false) := rfl
  have hfz : ∀ (K : Heap) (x y : AV), still x = true → still y = true → Frz K H.length (packR [x, y]) (.tup [x, y]) := fun K x y h1 h2 => .tup (.cons (.still h1) (.cons (.still h2) .nil))
  have hls : ∀ K (u : List UInt8), aLen Tryd.prog K 9 (.str u) = some (.int .i64 u.length) := fun K u => str_len Tryd.underlying9 u K
  have ad : ∀ (d : List UInt8), d.length ≤ s.length → aLim cfg H.length 55 [.str d, .func 42 [] []] H = some (.bool (d.all fun c => digitC c.toNat), none) :=
    fun d hd => allF_ok 42 digitC (fun c prot H hp => digit_ok _ prot H hp) d (by omega) H.length H (Nat.le_refl _)
  have lim : IntKind.u64.wrap (9223372036854775807 + 1) = 9223372036854775808 := by rfl
  have dn50 : decide (¬ (5 : Int) = 0) = true := by decide
  have dn00 : decide (¬ (0 : Int) = 0) = false := by decide
  by_cases hm : s.head? = some 45
  · obtain ⟨d, hd⟩ : ∃ d, s = 45 :: d := by
      cases s with
      | nil => cases hm
      | cons c r => exact ⟨r, by simp at hm; rw [hm]⟩
    have hnum : numS s = numD true d := by rw [hd]; simp [numS]
    rw [hnum]
    have e0 : aIndex Tryd.prog 9 (.str s) (.int .i64 0) = some (.int .u8 45) := by
      rw [hd]; exact str_at (k := .i64) Tryd.underlying9 (45 :: d) (i := 0) (by simp)
    have e1 : aSlice Tryd.prog 9 (.str s) (some (.int .i64 1)) none none = some (.str d) := by
      rw [hd]; exact str_from (k := .i64) Tryd.underlying9 (45 :: d) (a := 1) (by simp)
    have hpos : decide ((0 : Int) < (s.length : Nat)) = true := decide_eq_true (by rw [hd]; simp only [List.length_cons]; omega)
    have hdl : d.length ≤ s.length := by rw [hd]; simp
    have nd := ad d hdl
    clear hd hm
    by_cases c1 : d = []
    · have hse : (d == []) = true := by rw [c1]; rfl
      rw [show numD true d = (0, 3) by unfold numD; rw [if_pos (.inl c1)]]
      refine pure_slim rfl (by kernel_rfl) Tryd.func44 s44 hp hsnap (by simp [Tryd.f44]) fun fr hlen h => ?_
      simp only [Has, Nat.zero_add] at h
      obtain ⟨a0, -⟩ := h
      simp only [Tryd.f44] at hlen ⊢
      unfold g44
      simp only [wk, aBuiltin, AV.cells, AV.leaf, Nat.reduceEqDiff, Nat.reduceLT, Nat.reduceAdd, Nat.reduceLeDiff, reduceCtorEq, Nat.reduceMul, Nat.reduceMod, cfgP, u55, hlen, a0, hls, hpos, e0, e1, lim, none_beq, str_eql, hse]
      exact Fin_pure (l := [.int .i64 0, .int .i64 3]) (by simp [wk, aBuiltin, AV.cells, AV.leaf, Nat.reduceEqDiff, Nat.reduceLT, Nat.reduceAdd, Nat.reduceLeDiff, reduceCtorEq, Nat.reduceMul, Nat.reduceMod, cfgP, u55, hlen, aResults, aResult]) (hfz _ _ _ rfl rfl) (by simp)
    · have hse : (d == []) = false := by simpa using c1
      cases hall : (d.all fun c => digitC c.toNat) with
      | false =>
        rw [hall] at nd
        rw [show numD true d = (0, 3) by unfold numD; rw [if_pos (.inr (.inl hall))]]
        refine pure_slim rfl (by kernel_rfl) Tryd.func44 s44 hp hsnap (by simp [Tryd.f44]) fun fr hlen h => ?_
        simp only [Has, Nat.zero_add] at h
        obtain ⟨a0, -⟩ := h
        simp only [Tryd.f44] at hlen ⊢
        unfold g44
        simp only [wk, aBuiltin, AV.cells, AV.leaf, Nat.reduceEqDiff, Nat.reduceLT, Nat.reduceAdd, Nat.reduceLeDiff, reduceCtorEq, Nat.reduceMul, Nat.reduceMod, cfgP, u55, hlen, a0, hls, hpos, e0, e1, lim, none_beq, str_eql, hse, nd]
        exact Fin_pure (l := [.int .i64 0, .int .i64 3]) (by simp [wk, aBuiltin, AV.cells, AV.leaf, Nat.reduceEqDiff, Nat.reduceLT, Nat.reduceAdd, Nat.reduceLeDiff, reduceCtorEq, Nat.reduceMul, Nat.reduceMod, cfgP, u55, hlen, aResults, aResult]) (hfz _ _ _ rfl rfl) (by simp)
      | true =>
        rw [hall] at nd
        have hpd : 0 < d.length := List.length_pos_iff.2 c1
        have e3 := str_at (k := .i64) Tryd.underlying9 d hpd
        have e3 : aIndex Tryd.prog 9 (.str d) (.int .i64 0) = some (.int .u8 (d[0].toNat : Int)) := e3
        have hh : d.head? = some d[0] := by rw [List.head?_eq_getElem?, List.getElem?_eq_getElem hpd]
        have hbad : 1 < d.length ∧ d[0] = 48 ∨ (¬ (1 < d.length) ∨ ¬ d[0] = 48) := by
          by_cases x : 1 < d.length
          · by_cases y : d[0] = 48
            · exact .inl ⟨x, y⟩
            · exact .inr (.inr y)
          · exact .inr (.inl x)
        rcases hbad with ⟨b1, b2⟩ | hgood
        · rw [show numD true d = (0, 3) by unfold numD; rw [if_pos (.inr (.inr ⟨b1, by rw [hh, b2]⟩))]]
          have d2 : decide (((d[0].toNat : Nat) : Int) = 48) = true := by rw [b2]; rfl
          have d1 : decide ((1 : Int) < (d.length : Nat)) = true := decide_eq_true (by omega)
          refine pure_slim rfl (by kernel_rfl) Tryd.func44 s44 hp hsnap (by simp [Tryd.f44]) fun fr hlen h => ?_
          simp only [Has, Nat.zero_add] at h
          obtain ⟨a0, -⟩ := h
          simp only [Tryd.f44] at hlen ⊢
          unfold g44
          simp only [wk, aBuiltin, AV.cells, AV.leaf, Nat.reduceEqDiff, Nat.reduceLT, Nat.reduceAdd, Nat.reduceLeDiff, reduceCtorEq, Nat.reduceMul, Nat.reduceMod, cfgP, u55, hlen, a0, hls, hpos, e0, e1, lim, none_beq, str_eql, hse, nd, e3, d1, d2]
          exact Fin_pure (l := [.int .i64 0, .int .i64 3]) (by simp [wk, aBuiltin, AV.cells, AV.leaf, Nat.reduceEqDiff, Nat.reduceLT, Nat.reduceAdd, Nat.reduceLeDiff, reduceCtorEq, Nat.reduceMul, Nat.reduceMod, cfgP, u55, hlen, aResults, aResult]) (hfz _ _ _ rfl rfl) (by simp)
        · have hdg : ∀ c ∈ d, digitC c.toNat = true := fun c hc => List.all_eq_true.1 hall c hc
          have nn : aLim cfg H.length 56 [.str d, .int .u64 9223372036854775808] H = some (dig2 (digGo 9223372036854775808 0 d), none) := digits_ok d 9223372036854775808 hdg (by omega) (by omega) (by omega) H.length H (Nat.le_refl _)
          have hle := digGo_le 9223372036854775808 d 0
          have hnd : numD true d = match digGo 9223372036854775808 0 d with
              | none => (0, 5)
              | some v => (-(v : Int), 0) := by
            unfold numD
            rw [if_neg]
            · rfl
            · rw [hall, hh]
              rintro (x | x | ⟨x, y⟩)
              · exact c1 x
              · cases x
              · injection y with y
                rcases hgood with g | g
                · exact g x
                · exact g y
          have hcase : decide ((1 : Int) < (d.length : Nat)) = false ∨ decide ((1 : Int) < (d.length : Nat)) = true ∧ decide (((d[0].toNat : Nat) : Int) = 48) = false := by
            by_cases x : 1 < d.length
            · rcases hgood with g | g
              · exact absurd x g
              · refine .inr ⟨decide_eq_true (by omega), decide_eq_false fun y => g (UInt8.toNat_inj.1 ?_)⟩
                rw [show (48 : UInt8).toNat = 48 from rfl]; omega
            · exact .inl (decide_eq_false (by omega))
          rw [hnd]
          have hle := fun v h => hle v (by omega) (by omega) hdg h
          generalize d[0] = c0 at *
          cases hgo : digGo 9223372036854775808 0 d with
          | none =>
            rw [hgo, dig2] at nn
            rcases hcase with d1 | ⟨d1, d2⟩
            · refine pure_slim rfl (by kernel_rfl) Tryd.func44 s44 hp hsnap (by simp [Tryd.f44]) fun fr hlen h => ?_
              simp only [Has, Nat.zero_add] at h
              obtain ⟨a0, -⟩ := h
              simp only [Tryd.f44] at hlen ⊢
              unfold g44
              simp only [wk, aBuiltin, AV.cells, AV.leaf, Nat.reduceEqDiff, Nat.reduceLT, Nat.reduceAdd, Nat.reduceLeDiff, reduceCtorEq, Nat.reduceMul, Nat.reduceMod, cfgP, u55, hlen, a0, hls, hpos, e0, e1, lim, none_beq, str_eql, hse, nd, e3, d1, nn, dn50]
              exact Fin_pure (l := [.int .i64 0, .int .i64 5]) (by simp [wk, aBuiltin, AV.cells, AV.leaf, Nat.reduceEqDiff, Nat.reduceLT, Nat.reduceAdd, Nat.reduceLeDiff, reduceCtorEq, Nat.reduceMul, Nat.reduceMod, cfgP, u55, hlen, aResults, aResult]) (hfz _ _ _ rfl rfl) (by simp)
            · refine pure_slim rfl (by kernel_rfl) Tryd.func44 s44 hp hsnap (by simp [Tryd.f44]) fun fr hlen h => ?_
              simp only [Has, Nat.zero_add] at h
              obtain ⟨a0, -⟩ := h
              simp only [Tryd.f44] at hlen ⊢
              unfold g44
              simp only [wk, aBuiltin, AV.cells, AV.leaf, Nat.reduceEqDiff, Nat.reduceLT, Nat.reduceAdd, Nat.reduceLeDiff, reduceCtorEq, Nat.reduceMul, Nat.reduceMod, cfgP, u55, hlen, a0, hls, hpos, e0, e1, lim, none_beq, str_eql, hse, nd, e3, d1, d2, nn, dn50]
              exact Fin_pure (l := [.int .i64 0, .int .i64 5]) (by simp [wk, aBuiltin, AV.cells, AV.leaf, Nat.reduceEqDiff, Nat.reduceLT, Nat.reduceAdd, Nat.reduceLeDiff, reduceCtorEq, Nat.reduceMul, Nat.reduceMod, cfgP, u55, hlen, aResults, aResult]) (hfz _ _ _ rfl rfl) (by simp)
          | some v =>
            rw [hgo, dig2] at nn
            have hv := hle v hgo
            have wv := neg64 (v := v) hv
            rcases hcase with d1 | ⟨d1, d2⟩
            · refine pure_slim rfl (by kernel_rfl) Tryd.func44 s44 hp hsnap (by simp [Tryd.f44]) fun fr hlen h => ?_
              simp only [Has, Nat.zero_add] at h
              obtain ⟨a0, -⟩ := h
              simp only [Tryd.f44] at hlen ⊢
              unfold g44
              simp only [wk, aBuiltin, AV.cells, AV.leaf, Nat.reduceEqDiff, Nat.reduceLT, Nat.reduceAdd, Nat.reduceLeDiff, reduceCtorEq, Nat.reduceMul, Nat.reduceMod, cfgP, u55, hlen, a0, hls, hpos, e0, e1, lim, none_beq, str_eql, hse, nd, e3, d1, nn, dn00, unop_neg, wv]
              exact Fin_pure (l := [.int .i64 (-(v : Int)), .int .i64 0]) (by simp [wk, aBuiltin, AV.cells, AV.leaf, Nat.reduceEqDiff, Nat.reduceLT, Nat.reduceAdd, Nat.reduceLeDiff, reduceCtorEq, Nat.reduceMul, Nat.reduceMod, cfgP, u55, hlen, aResults, aResult]) (hfz _ _ _ rfl rfl) (by simp)
            · refine pure_slim rfl (by kernel_rfl) Tryd.func44 s44 hp hsnap (by simp [Tryd.f44]) fun fr hlen h => ?_
              simp only [Has, Nat.zero_add] at h
              obtain ⟨a0, -⟩ := h
              simp only [Tryd.f44] at hlen ⊢
              unfold g44
              simp only [wk, aBuiltin, AV.cells, AV.leaf, Nat.reduceEqDiff, Nat.reduceLT, Nat.reduceAdd, Nat.reduceLeDiff, reduceCtorEq, Nat.reduceMul, Nat.reduceMod, cfgP, u55, hlen, a0, hls, hpos, e0, e1, lim, none_beq, str_eql, hse, nd, e3, d1, d2, nn, dn00, unop_neg, wv]
              exact Fin_pure (l := [.int .i64 (-(v : Int)), .int .i64 0]) (by simp [wk, aBuiltin, AV.cells, AV.leaf, Nat.reduceEqDiff, Nat.reduceLT, Nat.reduceAdd, Nat.reduceLeDiff, reduceCtorEq, Nat.reduceMul, Nat.reduceMod, cfgP, u55, hlen, aResults, aResult]) (hfz _ _ _ rfl rfl) (by simp)
  · have hnum : numS s = numD false s := by simp [numS, hm]
    rw [hnum]
    have nd := ad s (Nat.le_refl _)
    by_cases hs0 : s = []
    · have hpos : decide ((0 : Int) < (s.length : Nat)) = false := by rw [hs0]; rfl
      have hse : (s == []) = true := by rw [hs0]; rfl
      rw [show numD false s = (0, 3) by unfold numD; rw [if_pos (.inl hs0)]]
      refine pure_slim rfl (by kernel_rfl) Tryd.func44 s44 hp hsnap (by simp [Tryd.f44]) fun fr hlen h => ?_
      simp only [Has, Nat.zero_add] at h
      obtain ⟨a0, -⟩ := h
      simp only [Tryd.f44] at hlen ⊢
      unfold g44
      simp only [wk, aBuiltin, AV.cells, AV.leaf, Nat.reduceEqDiff, Nat.reduceLT, Nat.reduceAdd, Nat.reduceLeDiff, reduceCtorEq, Nat.reduceMul, Nat.reduceMod, cfgP, u55, hlen, a0, hls, hpos, none_beq, str_eql, hse]
      exact Fin_pure (l := [.int .i64 0, .int .i64 3]) (by simp [wk, aBuiltin, AV.cells, AV.leaf, Nat.reduceEqDiff, Nat.reduceLT, Nat.reduceAdd, Nat.reduceLeDiff, reduceCtorEq, Nat.reduceMul, Nat.reduceMod, cfgP, u55, hlen, aResults, aResult]) (hfz _ _ _ rfl rfl) (by simp)
    · have hps : 0 < s.length := List.length_pos_iff.2 hs0
      have hpos : decide ((0 : Int) < (s.length : Nat)) = true := decide_eq_true (by omega)
      have e0 := str_at (k := .i64) Tryd.underlying9 s hps
      have e0 : aIndex Tryd.prog 9 (.str s) (.int .i64 0) = some (.int .u8 (s[0].toNat : Int)) := e0
      have h45 : decide (((s[0].toNat : Nat) : Int) = 45) = false := decide_eq_false fun y => by
        refine hm ?_
        rw [List.head?_eq_getElem?, List.getElem?_eq_getElem hps]
        refine congrArg some (UInt8.toNat_inj.1 ?_)
        rw [show (45 : UInt8).toNat = 45 from rfl]; omega
      by_cases c1 : s = []
      · have hse : (s == []) = true := by rw [c1]; rfl
        rw [show numD false s = (0, 3) by unfold numD; rw [if_pos (.inl c1)]]
        refine pure_slim rfl (by kernel_rfl) Tryd.func44 s44 hp hsnap (by simp [Tryd.f44]) fun fr hlen h => ?_
        simp only [Has, Nat.zero_add] at h
        obtain ⟨a0, -⟩ := h
        simp only [Tryd.f44] at hlen ⊢
        unfold g44
        simp only [wk, aBuiltin, AV.cells, AV.leaf, Nat.reduceEqDiff, Nat.reduceLT, Nat.reduceAdd, Nat.reduceLeDiff, reduceCtorEq, Nat.reduceMul, Nat.reduceMod, cfgP, u55, hlen, a0, hls, hpos, e0, h45, none_beq, str_eql, hse]
        exact Fin_pure (l := [.int .i64 0, .int .i64 3]) (by simp [wk, aBuiltin, AV.cells, AV.leaf, Nat.reduceEqDiff, Nat.reduceLT, Nat.reduceAdd, Nat.reduceLeDiff, reduceCtorEq, Nat.reduceMul, Nat.reduceMod, cfgP, u55, hlen, aResults, aResult]) (hfz _ _ _ rfl rfl) (by simp)
      · have hse : (s == []) = false := by simpa using c1
        cases hall : (s.all fun c => digitC c.toNat) with
        | false =>
          rw [hall] at nd
          rw [show numD false s = (0, 3) by unfold numD; rw [if_pos (.inr (.inl hall))]]
          refine pure_slim rfl (by kernel_rfl) Tryd.func44 s44 hp hsnap (by simp [Tryd.f44]) fun fr hlen h => ?_
          simp only [Has, Nat.zero_add] at h
          obtain ⟨a0, -⟩ := h
          simp only [Tryd.f44] at hlen ⊢
          unfold g44
          simp only [wk, aBuiltin, AV.cells, AV.leaf, Nat.reduceEqDiff, Nat.reduceLT, Nat.reduceAdd, Nat.reduceLeDiff, reduceCtorEq, Nat.reduceMul, Nat.reduceMod, cfgP, u55, hlen, a0, hls, hpos, e0, h45, none_beq, str_eql, hse, nd]
          exact Fin_pure (l := [.int .i64 0, .int .i64 3]) (by simp [wk, aBuiltin, AV.cells, AV.leaf, Nat.reduceEqDiff, Nat.reduceLT, Nat.reduceAdd, Nat.reduceLeDiff, reduceCtorEq, Nat.reduceMul, Nat.reduceMod, cfgP, u55, hlen, aResults, aResult]) (hfz _ _ _ rfl rfl) (by simp)
        | true =>
          rw [hall] at nd
          have hpd : 0 < s.length := List.length_pos_iff.2 c1
          have e3 := str_at (k := .i64) Tryd.underlying9 s hpd
          have e3 : aIndex Tryd.prog 9 (.str s) (.int .i64 0) = some (.int .u8 (s[0].toNat : Int)) := e3
          have hh : s.head? = some s[0] := by rw [List.head?_eq_getElem?, List.getElem?_eq_getElem hpd]
          have hbad : 1 < s.length ∧ s[0] = 48 ∨ (¬ (1 < s.length) ∨ ¬ s[0] = 48) := by
            by_cases x : 1 < s.length
            · by_cases y : s[0] = 48
              · exact .inl ⟨x, y⟩
              · exact .inr (.inr y)
            · exact .inr (.inl x)
          rcases hbad with ⟨b1, b2⟩ | hgood
          · rw [show numD false s = (0, 3) by unfold numD; rw [if_pos (.inr (.inr ⟨b1, by rw [hh, b2]⟩))]]
            have d2 : decide (((s[0].toNat : Nat) : Int) = 48) = true := by rw [b2]; rfl
            have d1 : decide ((1 : Int) < (s.length : Nat)) = true := decide_eq_true (by omega)
            refine pure_slim rfl (by kernel_rfl) Tryd.func44 s44 hp hsnap (by simp [Tryd.f44]) fun fr hlen h => ?_
            simp only [Has, Nat.zero_add] at h
            obtain ⟨a0, -⟩ := h
            simp only [Tryd.f44] at hlen ⊢
            unfold g44
            simp only [wk, aBuiltin, AV.cells, AV.leaf, Nat.reduceEqDiff, Nat.reduceLT, Nat.reduceAdd, Nat.reduceLeDiff, reduceCtorEq, Nat.reduceMul, Nat.reduceMod, cfgP, u55, hlen, a0, hls, hpos, e0, h45, none_beq, str_eql, hse, nd, e3, d1, d2]
            exact Fin_pure (l := [.int .i64 0, .int .i64 3]) (by simp [wk, aBuiltin, AV.cells, AV.leaf, Nat.reduceEqDiff, Nat.reduceLT, Nat.reduceAdd, Nat.reduceLeDiff, reduceCtorEq, Nat.reduceMul, Nat.reduceMod, cfgP, u55, hlen, aResults, aResult]) (hfz _ _ _ rfl rfl) (by simp)
          · have hdg : ∀ c ∈ s, digitC c.toNat = true := fun c hc => List.all_eq_true.1 hall c hc
            have nn : aLim cfg H.length 56 [.str s, .int .u64 9223372036854775807] H = some (dig2 (digGo 9223372036854775807 0 s), none) := digits_ok s 9223372036854775807 hdg (by omega) (by omega) (by omega) H.length H (Nat.le_refl _)
            have hle := digGo_le 9223372036854775807 s 0
            have hnd : numD false s = match digGo 9223372036854775807 0 s with
                | none => (0, 5)
                | some v => ((v : Int), 0) := by
              unfold numD
              rw [if_neg]
              · rfl
              · rw [hall, hh]
                rintro (x | x | ⟨x, y⟩)
                · exact c1 x
                · cases x
                · injection y with y
                  rcases hgood with g | g
                  · exact g x
                  · exact g y
            have hcase : decide ((1 : Int) < (s.length : Nat)) = false ∨ decide ((1 : Int) < (s.length : Nat)) = true ∧ decide (((s[0].toNat : Nat) : Int) = 48) = false := by
              by_cases x : 1 < s.length
              · rcases hgood with g | g
                · exact absurd x g
                · refine .inr ⟨decide_eq_true (by omega), decide_eq_false fun y => g (UInt8.toNat_inj.1 ?_)⟩
                  rw [show (48 : UInt8).toNat = 48 from rfl]; omega
              · exact .inl (decide_eq_false (by omega))
            rw [hnd]
            have hle := fun v h => hle v (by omega) (by omega) hdg h
            generalize s[0] = c0 at *
            cases hgo : digGo 9223372036854775807 0 s with
            | none =>
              rw [hgo, dig2] at nn
              rcases hcase with d1 | ⟨d1, d2⟩
              · refine pure_slim rfl (by kernel_rfl) Tryd.func44 s44 hp hsnap (by simp [Tryd.f44]) fun fr hlen h => ?_
                simp only [Has, Nat.zero_add] at h
                obtain ⟨a0, -⟩ := h
                simp only [Tryd.f44] at hlen ⊢
                unfold g44
                simp only [wk, aBuiltin, AV.cells, AV.leaf, Nat.reduceEqDiff, Nat.reduceLT, Nat.reduceAdd, Nat.reduceLeDiff, reduceCtorEq, Nat.reduceMul, Nat.reduceMod, cfgP, u55, hlen, a0, hls, hpos, e0, h45, none_beq, str_eql, hse, nd, e3, d1, nn, dn50]
                exact Fin_pure (l := [.int .i64 0, .int .i64 5]) (by simp [wk, aBuiltin, AV.cells, AV.leaf, Nat.reduceEqDiff, Nat.reduceLT, Nat.reduceAdd, Nat.reduceLeDiff, reduceCtorEq, Nat.reduceMul, Nat.reduceMod, cfgP, u55, hlen, aResults, aResult]) (hfz _ _ _ rfl rfl) (by simp)
              · refine pure_slim rfl (by kernel_rfl) Tryd.func44 s44 hp hsnap (by simp [Tryd.f44]) fun fr hlen h => ?_
                simp only [Has, Nat.zero_add] at h
                obtain ⟨a0, -⟩ := h
                simp only [Tryd.f44] at hlen ⊢
                unfold g44
                simp only [wk, aBuiltin, AV.cells, AV.leaf, Nat.reduceEqDiff, Nat.reduceLT, Nat.reduceAdd, Nat.reduceLeDiff, reduceCtorEq, Nat.reduceMul, Nat.reduceMod, cfgP, u55, hlen, a0, hls, hpos, e0, h45, none_beq, str_eql, hse, nd, e3, d1, d2, nn, dn50]
                exact Fin_pure (l := [.int .i64 0, .int .i64 5]) (by simp [wk, aBuiltin, AV.cells, AV.leaf, Nat.reduceEqDiff, Nat.reduceLT, Nat.reduceAdd, Nat.reduceLeDiff, reduceCtorEq, Nat.reduceMul, Nat.reduceMod, cfgP, u55, hlen, aResults, aResult]) (hfz _ _ _ rfl rfl) (by simp)
            | some v =>
              rw [hgo, dig2] at nn
              have hv := hle v hgo
              have wv := pos64 (v := v) hv
              rcases hcase with d1 | ⟨d1, d2⟩
              · refine pure_slim rfl (by kernel_rfl) Tryd.func44 s44 hp hsnap (by simp [Tryd.f44]) fun fr hlen h => ?_
                simp only [Has, Nat.zero_add] at h
                obtain ⟨a0, -⟩ := h
                simp only [Tryd.f44] at hlen ⊢
                unfold g44
                simp only [wk, aBuiltin, AV.cells, AV.leaf, Nat.reduceEqDiff, Nat.reduceLT, Nat.reduceAdd, Nat.reduceLeDiff, reduceCtorEq, Nat.reduceMul, Nat.reduceMod, cfgP, u55, hlen, a0, hls, hpos, e0, h45, none_beq, str_eql, hse, nd, e3, d1, nn, dn00, unop_neg, wv]
                exact Fin_pure (l := [.int .i64 ((v : Int)), .int .i64 0]) (by simp [wk, aBuiltin, AV.cells, AV.leaf, Nat.reduceEqDiff, Nat.reduceLT, Nat.reduceAdd, Nat.reduceLeDiff, reduceCtorEq, Nat.reduceMul, Nat.reduceMod, cfgP, u55, hlen, aResults, aResult]) (hfz _ _ _ rfl rfl) (by simp)
              · refine pure_slim rfl (by kernel_rfl) Tryd.func44 s44 hp hsnap (by simp [Tryd.f44]) fun fr hlen h => ?_
                simp only [Has, Nat.zero_add] at h
                obtain ⟨a0, -⟩ := h
                simp only [Tryd.f44] at hlen ⊢
                unfold g44
                simp only [wk, aBuiltin, AV.cells, AV.leaf, Nat.reduceEqDiff, Nat.reduceLT, Nat.reduceAdd, Nat.reduceLeDiff, reduceCtorEq, Nat.reduceMul, Nat.reduceMod, cfgP, u55, hlen, a0, hls, hpos, e0, h45, none_beq, str_eql, hse, nd, e3, d1, d2, nn, dn00, unop_neg, wv]
                exact Fin_pure (l := [.int .i64 ((v : Int)), .int .i64 0]) (by simp [wk, aBuiltin, AV.cells, AV.leaf, Nat.reduceEqDiff, Nat.reduceLT, Nat.reduceAdd, Nat.reduceLeDiff, reduceCtorEq, Nat.reduceMul, Nat.reduceMod, cfgP, u55, hlen, aResults, aResult]) (hfz _ _ _ rfl rfl) (by simp)
end Go.Proofs.YtimbhlbkidmplaaDoor
/- IndexByte, walked. -/
namespace Go.Proofs.YtimbhlbkidmplaaDoor
open Go Go.Abs AbsSeat Ty

theorem u52 : type_of% (And.intro ag5 (And.intro sz5 (And.intro by5 (And.intro ze5 (And.intro Tryd.underlying5 (And.intro ag9 (And.intro sz9 (And.intro by9 (And.intro ze9 Tryd.underlying9))))))))) := And.intro ag5 (And.intro sz5 (And.intro by5 (And.intro ze5 (And.intro Tryd.underlying5 (And.intro ag9 (And.intro sz9 (And.intro by9 (And.intro ze9 Tryd.underlying9))))))))
def g52 : Code :=
  .seq (.region 0 #[q 4 (.assign (ik 0)) 3] false) (.seq (.region 1 #[q 5 (.move (.tmp 0)) 9, q 6 (.move (.tmp 1)) 5, q 7 (cl 62 #[.tmp 5, .tmp 6] #[9, 5]) 3, q 4 (.assign (.tmp 7)) 3] false) .ret)
theorem s52 : Tryd.f52.body.map (slim cfg) = some g52 := by kernel_rfl
def g40 : Code :=
  .seq (.region 0 #[q 4 (.assign (ik 0)) 3] false) (.seq (.region 1 #[q 5 (.move (.tmp 0)) 9, q 6 (.move (.tmp 1)) 5, q 7 (cl 52 #[.tmp 5, .tmp 6] #[9, 5]) 3, q 4 (.assign (.tmp 7)) 3] false) .ret)
theorem s40 : Tryd.f40.body.map (slim cfg) = some g40 := by kernel_rfl

theorem idxX_ok (s : List UInt8) (c : Int) (prot : Nat) (H : Heap) : aLim cfg prot 62 [.str s, .int .u8 c] H = some (.int .i64 (idxByte s c.toNat.toUInt8), none) :=
  lim_ext (by kernel_rfl) Tryd.func62 (by kernel_rfl) (by kernel_rfl) prot H (by kernel_rfl)

theorem idxL_ok (s : List UInt8) (c : UInt8) (prot : Nat) (H : Heap) (hp : prot ≤ H.length) : aLim cfg prot 52 [.str s, .int .u8 c.toNat] H = some (.int .i64 (idxByte s c), none) := by
  have hsnap : snap H [.str s, .int .u8 c.toNat] = some ([.str s, .int .u8 c.toNat], false) := rfl
  have n1 := idxX_ok s (c.toNat : Int) H.length H
  have e : ((c.toNat : Int)).toNat.toUInt8 = c := by simp
  rw [e] at n1
  refine pure_slim rfl (by kernel_rfl) Tryd.func52 s52 hp hsnap (by simp [Tryd.f52]) fun fr hlen h => ?_
  simp only [Has, Nat.zero_add] at h
  obtain ⟨a0, a1, -⟩ := h
  simp only [Tryd.f52] at hlen ⊢
  unfold g52
  simp only [wk, aBuiltin, AV.cells, AV.leaf, Nat.reduceEqDiff, Nat.reduceLT, Nat.reduceAdd, Nat.reduceLeDiff, reduceCtorEq, Nat.reduceMul, Nat.reduceMod, cfgP, u52, hlen, a0, a1, n1]
  exact Fin_pure (l := [.int .i64 (idxByte s c)]) (by simp [wk, aBuiltin, AV.cells, AV.leaf, Nat.reduceEqDiff, Nat.reduceLT, Nat.reduceAdd, Nat.reduceLeDiff, reduceCtorEq, Nat.reduceMul, Nat.reduceMod, cfgP, u52, aResults, aResult, hlen]) (.still rfl) (by simp)

theorem idxS_ok (s : List UInt8) (c : UInt8) (prot : Nat) (H : Heap) (hp : prot ≤ H.length) : aLim cfg prot 40 [.str s, .int .u8 c.toNat] H = some (.int .i64 (idxByte s c), none) := by
  have hsnap : snap H [.str s, .int .u8 c.toNat] = some ([.str s, .int .u8 c.toNat], false) := rfl
  have n1 := idxL_ok s c H.length H (Nat.le_refl _)
  refine pure_slim rfl (by kernel_rfl) Tryd.func40 s40 hp hsnap (by simp [Tryd.f40]) fun fr hlen h => ?_
  simp only [Has, Nat.zero_add] at h
  obtain ⟨a0, a1, -⟩ := h
  simp only [Tryd.f40] at hlen ⊢
  unfold g40
  simp only [wk, aBuiltin, AV.cells, AV.leaf, Nat.reduceEqDiff, Nat.reduceLT, Nat.reduceAdd, Nat.reduceLeDiff, reduceCtorEq, Nat.reduceMul, Nat.reduceMod, cfgP, u52, hlen, a0, a1, n1]
  exact Fin_pure (l := [.int .i64 (idxByte s c)]) (by simp [wk, aBuiltin, AV.cells, AV.leaf, Nat.reduceEqDiff, Nat.reduceLT, Nat.reduceAdd, Nat.reduceLeDiff, reduceCtorEq, Nat.reduceMul, Nat.reduceMod, cfgP, u52, aResults, aResult, hlen]) (.still rfl) (by simp)

end Go.Proofs.YtimbhlbkidmplaaDoor
/- jtok.token, walked. -/
namespace Go.Proofs.YtimbhlbkidmplaaDoor
open Go Go.Abs AbsSeat Ty

theorem u36 : type_of% (And.intro (show tagT Tryd.prog 49 = 0 from by kernel_rfl) (And.intro ag2 (And.intro sz2 (And.intro by2 (And.intro ze2 (And.intro Tryd.underlying2 (And.intro ag3 (And.intro sz3 (And.intro by3 (And.intro ze3 (And.intro Tryd.underlying3 (And.intro ag5 (And.intro sz5 (And.intro by5 (And.intro ze5 (And.intro Tryd.underlying5 (And.intro ag9 (And.intro sz9 (And.intro by9 (And.intro ze9 (And.intro Tryd.underlying9 (And.intro ag33 (And.intro sz33 (And.intro by33 (And.intro ze33 (And.intro Tryd.underlying33 (And.intro ag49 (And.intro sz49 (And.intro by49 (And.intro ze49 (And.intro bu49 (And.intro Tryd.underlying49 (And.intro ag75 (And.intro sz75 (And.intro by75 (And.intro ze75 (And.intro Tryd.underlying75 (And.intro ag77 (And.intro sz77 (And.intro by77 (And.intro ze77 (And.intro Tryd.underlying77 (And.intro fa49_0 (And.intro fd49_0 (And.intro fa49_2 (And.intro fd49_2 (And.intro fa49_3 (And.intro fd49_3 (And.intro fa49_4 fd49_4))))))))))))))))))))))))))))))))))))))))))))))))) := And.intro (show tagT Tryd.prog 49 = 0 from by kernel_rfl) (And.intro ag2 (And.intro sz2 (And.intro by2 (And.intro ze2 (And.intro Tryd.underlying2 (And.intro ag3 (And.intro sz3 (And.intro by3 (And.intro ze3 (And.intro Tryd.underlying3 (And.intro ag5 (And.intro sz5 (And.intro by5 (And.intro ze5 (And.intro Tryd.underlying5 (And.intro ag9 (And.intro sz9 (And.intro by9 (And.intro ze9 (And.intro Tryd.underlying9 (And.intro ag33 (And.intro sz33 (And.intro by33 (And.intro ze33 (And.intro Tryd.underlying33 (And.intro ag49 (And.intro sz49 (And.intro by49 (And.intro ze49 (And.intro bu49 (And.intro Tryd.underlying49 (And.intro ag75 (And.intro sz75 (And.intro by75 (And.intro ze75 (And.intro Tryd.underlying75 (And.intro ag77 (And.intro sz77 (And.intro by77 (And.intro ze77 (And.intro Tryd.underlying77 (And.intro fa49_0 (And.intro fd49_0 (And.intro fa49_2 (And.intro fd49_2 (And.intro fa49_3 (And.intro fd49_3 (And.intro fa49_4 fd49_4))))))))))))))))))))))))))))))))))))))))))))))))
def g36 : Code :=
  .seq (.region 0 #[q 4 (.alloc 49) 0, q 5 (.assign (.const .nilIface)) 77] false) (.seq (.region 1 #[q 13 (.move (.tmp 1)) 3, q 14 (.move (.tmp 1)) 3, q 15 (.binOp .add 3 (.tmp 14) (ik 1) 3) 3, q 16 (.build 49 #[(1, .tmp 13), (2, .tmp 15)]) 49, q 6 (.alloc 49) 0, qn (.store 49 (.tmp 6) (.tmp 16)) 0] false) (.seq (.seq (.region 2 #[q 17 (.move (.tmp 0)) 9, q 18 (.move (.tmp 1)) 3, q 19 (.index 9 (.tmp 17) (.tmp 18)) 5, q 20 (cl 40 #[.const (.string { data := #[123, 125, 91, 93, 58, 44] }), .tmp 19] #[9, 5]) 3, q 7 (.assign (.tmp 20)) 3] false) (.seq (.region 3 #[q 21 (.move (.tmp 7)) 3, q 22 (.binOp .geq 3 (.tmp 21) (ik 0) 3) 4] false) (.cond (.tmp 22) (.seq (.region 4 #[q 23 (.move (.tmp 7)) 3, q 24 (.binOp .add 3 (ik 1) (.tmp 23) 3) 3, q 25 (.fieldAddr 49 (.tmp 6) 0) 0, qn (.store 3 (.tmp 25) (.tmp 24)) 0] false) (.seq (.region 5 #[q 26 (.load 49 (.tmp 6)) 49, qn (.store 49 (.tmp 4) (.tmp 26)) 0, q 5 (.assign (.const .nilIface)) 77] false) .ret)) .skip))) (.seq (.seq (.region 6 #[q 27 (.move (.tmp 0)) 9, q 28 (.move (.tmp 1)) 3, q 29 (.index 9 (.tmp 27) (.tmp 28)) 5, q 30 (.binOp .eql 5 (.tmp 29) (.const (.int .u8 34)) 5) 4] false) (.cond (.tmp 30) (.seq (.region 7 #[q 32 (.move (.tmp 0)) 9, q 33 (.move (.tmp 1)) 3, q 34 (.binOp .add 3 (.tmp 33) (ik 1) 3) 3, q 35 (cl 41 #[.tmp 32, .tmp 34] #[9, 3]) 84, q 31 (.move (.tmp 35)) 84, q 36 (.extract (.tmp 31) 0) 9, q 37 (.extract (.tmp 31) 1) 3, q 38 (.extract (.tmp 31) 2) 77, q 8 (.assign (.tmp 36)) 9, q 9 (.assign (.tmp 37)) 3, q 10 (.assign (.tmp 38)) 77] false) (.seq (.seq (.region 8 #[q 39 (.move (.tmp 10)) 77, q 40 (.binOp .neq 77 (.tmp 39) (.const .nilIface) 77) 4] false) (.cond (.tmp 40) (.seq (.region 9 #[q 41 (.build 49 #[]) 49, q 42 (.move (.tmp 10)) 77, qn (.store 49 (.tmp 4) (.tmp 41)) 0, q 5 (.assign (.tmp 42)) 77] false) .ret) .skip)) (.seq (.region 10 #[q 43 (.move (.tmp 8)) 9, q 44 (.move (.tmp 9)) 3, q 45 (.fieldAddr 49 (.tmp 6) 0) 0, qn (.store 3 (.tmp 45) (ik 7)) 0, q 46 (.fieldAddr 49 (.tmp 6) 3) 0, qn (.store 9 (.tmp 46) (.tmp 43)) 0, q 47 (.fieldAddr 49 (.tmp 6) 2) 0, qn (.store 3 (.tmp 47) (.tmp 44)) 0] false) (.seq (.region 11 #[q 48 (.load 49 (.tmp 6)) 49, qn (.store 49 (.tmp 4) (.tmp 48)) 0, q 5 (.assign (.const .nilIface)) 77] false) .ret)))) .skip)) (.seq (.seq (.region 12 #[q 49 (.move (.tmp 0)) 9, q 50 (.move (.tmp 1)) 3, q 51 (.index 9 (.tmp 49) (.tmp 50)) 5, q 52 (cl 42 #[.tmp 51] #[5]) 4, q 53 (.move (.tmp 52)) 4, qg 54 (.move (.tmp 0)) 9 4 false, qg 55 (.move (.tmp 1)) 3 4 false, qg 56 (.index 9 (.tmp 54) (.tmp 55)) 5 4 false, qg 57 (.binOp .eql 5 (.tmp 56) (.const (.int .u8 45)) 5) 4 4 false, q 58 (.pick (.tmp 53) (.const (.bool true)) (.tmp 57)) 4] false) (.cond (.tmp 58) (.seq (.region 13 #[q 59 (.move (.tmp 0)) 9, q 60 (.move (.tmp 1)) 3, q 61 (cl 34 #[.tmp 59, .tmp 60, .func 43] #[9, 3, 75]) 3, q 62 (.fieldAddr 49 (.tmp 6) 2) 0, qn (.store 3 (.tmp 62) (.tmp 61)) 0] false) (.seq (.region 14 #[q 64 (.move (.tmp 0)) 9, q 65 (.move (.tmp 1)) 3, q 66 (.fieldAddr 49 (.tmp 6) 2) 0, q 67 (.load 3 (.tmp 66)) 3, q 68 (.slice 9 (.tmp 64) (some (.tmp 65)) (some (.tmp 67)) none) 9, q 69 (cl 44 #[.tmp 68] #[9]) 86, q 63 (.move (.tmp 69)) 86, q 70 (.extract (.tmp 63) 0) 2, q 71 (.extract (.tmp 63) 1) 33, q 11 (.assign (.tmp 70)) 2, q 12 (.assign (.tmp 71)) 33] false) (.seq (.seq (.region 15 #[q 72 (.move (.tmp 12)) 33, q 73 (.binOp .neq 33 (.tmp 72) (ik 0) 33) 4] false) (.cond (.tmp 73) (.seq (.region 16 #[q 74 (.build 49 #[]) 49, q 75 (.move (.tmp 1)) 3, q 76 (.move (.tmp 12)) 33, q 77 (cl 45 #[.tmp 75, .tmp 76] #[3, 33]) 77, qn (.store 49 (.tmp 4) (.tmp 74)) 0, q 5 (.assign (.tmp 77)) 77] false) .ret) .skip)) (.seq (.region 17 #[q 78 (.move (.tmp 11)) 2, q 79 (.fieldAddr 49 (.tmp 6) 0) 0, qn (.store 3 (.tmp 79) (ik 8)) 0, q 80 (.fieldAddr 49 (.tmp 6) 4) 0, qn (.store 2 (.tmp 80) (.tmp 78)) 0] false) (.seq (.region 18 #[q 81 (.load 49 (.tmp 6)) 49, qn (.store 49 (.tmp 4) (.tmp 81)) 0, q 5 (.assign (.const .nilIface)) 77] false) .ret))))) .skip)) (.seq (.region 19 #[q 82 (.move (.tmp 0)) 9, q 83 (.move (.tmp 1)) 3, q 84 (cl 34 #[.tmp 82, .tmp 83, .func 46] #[9, 3, 75]) 3, q 85 (.fieldAddr 49 (.tmp 6) 2) 0, qn (.store 3 (.tmp 85) (.tmp 84)) 0] false) (.seq (.region 20 #[q 86 (.move (.tmp 0)) 9, q 87 (.move (.tmp 1)) 3, q 88 (.fieldAddr 49 (.tmp 6) 2) 0, q 89 (.load 3 (.tmp 88)) 3, q 90 (.slice 9 (.tmp 86) (some (.tmp 87)) (some (.tmp 89)) none) 9, q 91 (cl 47 #[.tmp 90] #[9]) 3, q 92 (.fieldAddr 49 (.tmp 6) 0) 0, qn (.store 3 (.tmp 92) (.tmp 91)) 0] false) (.seq (.seq (.region 21 #[q 93 (.fieldAddr 49 (.tmp 6) 0) 0, q 94 (.load 3 (.tmp 93)) 3, q 95 (.binOp .eql 3 (.tmp 94) (ik 0) 3) 4] false) (.cond (.tmp 95) (.seq (.region 22 #[q 96 (.build 49 #[]) 49, q 97 (.move (.tmp 1)) 3, q 98 (cl 45 #[.tmp 97, ik 3] #[3, 33]) 77, qn (.store 49 (.tmp 4) (.tmp 96)) 0, q 5 (.assign (.tmp 98)) 77] false) .ret) .skip)) (.seq (.region 23 #[q 99 (.load 49 (.tmp 6)) 49, qn (.store 49 (.tmp 4) (.tmp 99)) 0, q 5 (.assign (.const .nilIface)) 77] false) .ret))))))))
theorem s36 : Tryd.f36.body.map (slim cfg) = some g36 := by kernel_rfl
theorem beqD (s w : List UInt8) : (s == w) = decide (s = w) := by by_cases h : s = w <;> simp [h]
def wTrue : List UInt8 := [116, 114, 117, 101]
def wFalse : List UInt8 := [102, 97, 108, 115, 101]
def wNull : List UInt8 := [110, 117, 108, 108]
def wordS (s : List UInt8) : Int := if s = wTrue then 9 else if s = wFalse then 10 else if s = wNull then 11 else 0

theorem word_ok (s : List UInt8) (prot : Nat) (H : Heap) (hp : prot ≤ H.length) : aLim cfg prot 47 [.str s] H = some (.int .i64 (wordS s), none) := by
  have hsnap : snap H [.str s] = some ([.str s], false) := rfl
  unfold wordS
  have b1 : (s == [116, 114, 117, 101]) = decide (s = wTrue) := beqD _ _
  have b2 : (s == [102, 97, 108, 115, 101]) = decide (s = wFalse) := beqD _ _
  have b3 : (s == [110, 117, 108, 108]) = decide (s = wNull) := beqD _ _
  refine pure_slim rfl (by kernel_rfl) Tryd.func47 s47 hp hsnap (by simp [Tryd.f47]) fun fr hlen h => ?_
  simp only [Has, Nat.zero_add] at h
  obtain ⟨a0, -⟩ := h
  simp only [Tryd.f47] at hlen ⊢
  unfold g47
  by_cases h1 : s = wTrue
  · rw [if_pos h1]
    have d1 : decide (s = wTrue) = true := decide_eq_true h1
    simp only [wk, aBuiltin, AV.cells, AV.leaf, Nat.reduceEqDiff, Nat.reduceLT, Nat.reduceAdd, Nat.reduceLeDiff, reduceCtorEq, Nat.reduceMul, Nat.reduceMod, cfgP, u63, hlen, a0, str_eql, b1, d1]
    exact Fin_pure (l := [.int .i64 9]) (by simp [wk, aBuiltin, AV.cells, AV.leaf, Nat.reduceEqDiff, Nat.reduceLT, Nat.reduceAdd, Nat.reduceLeDiff, reduceCtorEq, Nat.reduceMul, Nat.reduceMod, cfgP, u63, aResults, aResult, hlen]) (.still rfl) (by simp)
  · rw [if_neg h1]
    have d1 : decide (s = wTrue) = false := decide_eq_false h1
    by_cases h2 : s = wFalse
    · rw [if_pos h2]
      have d2 : decide (s = wFalse) = true := decide_eq_true h2
      simp only [wk, aBuiltin, AV.cells, AV.leaf, Nat.reduceEqDiff, Nat.reduceLT, Nat.reduceAdd, Nat.reduceLeDiff, reduceCtorEq, Nat.reduceMul, Nat.reduceMod, cfgP, u63, hlen, a0, str_eql, b1, d1, b2, d2]
      exact Fin_pure (l := [.int .i64 10]) (by simp [wk, aBuiltin, AV.cells, AV.leaf, Nat.reduceEqDiff, Nat.reduceLT, Nat.reduceAdd, Nat.reduceLeDiff, reduceCtorEq, Nat.reduceMul, Nat.reduceMod, cfgP, u63, aResults, aResult, hlen]) (.still rfl) (by simp)
    · rw [if_neg h2]
      have d2 : decide (s = wFalse) = false := decide_eq_false h2
      by_cases h3 : s = wNull
      · rw [if_pos h3]
        have d3 : decide (s = wNull) = true := decide_eq_true h3
        simp only [wk, aBuiltin, AV.cells, AV.leaf, Nat.reduceEqDiff, Nat.reduceLT, Nat.reduceAdd, Nat.reduceLeDiff, reduceCtorEq, Nat.reduceMul, Nat.reduceMod, cfgP, u63, hlen, a0, str_eql, b1, d1, b2, d2, b3, d3]
        exact Fin_pure (l := [.int .i64 11]) (by simp [wk, aBuiltin, AV.cells, AV.leaf, Nat.reduceEqDiff, Nat.reduceLT, Nat.reduceAdd, Nat.reduceLeDiff, reduceCtorEq, Nat.reduceMul, Nat.reduceMod, cfgP, u63, aResults, aResult, hlen]) (.still rfl) (by simp)
      · rw [if_neg h3]
        have d3 : decide (s = wNull) = false := decide_eq_false h3
        simp only [wk, aBuiltin, AV.cells, AV.leaf, Nat.reduceEqDiff, Nat.reduceLT, Nat.reduceAdd, Nat.reduceLeDiff, reduceCtorEq, Nat.reduceMul, Nat.reduceMod, cfgP, u63, hlen, a0, str_eql, b1, d1, b2, d2, b3, d3]
        exact Fin_pure (l := [.int .i64 0]) (by simp [wk, aBuiltin, AV.cells, AV.leaf, Nat.reduceEqDiff, Nat.reduceLT, Nat.reduceAdd, Nat.reduceLeDiff, reduceCtorEq, Nat.reduceMul, Nat.reduceMod, cfgP, u63, aResults, aResult, hlen]) (.still rfl) (by simp)
structure Tk where
  kind : Int
  len : Nat
  text : List UInt8
  n : Int
inductive TkR where
  | bad (e : Int)
  | tok (t : Tk)
def signs : List UInt8 := [123, 125, 91, 93, 58, 44]
/-- the token at the beginning of bytes. -/
def tokS : List UInt8 → TkR
  | [] => .bad 6
  | c :: t =>
    if 0 ≤ idxByte signs c then .tok ⟨1 + idxByte signs c, 1, [], 0⟩
    else if c = 34 then (match textS t with | none => .bad 3 | some (b, n) => .tok ⟨7, n + 1, b, 0⟩)
    else if digitC c.toNat || decide (c = 45) then
      (if (numS ((c :: t).take (runS numericC (c :: t)))).2 = 0 then .tok ⟨8, runS numericC (c :: t), [], (numS ((c :: t).take (runS numericC (c :: t)))).1⟩ else .bad (numS ((c :: t).take (runS numericC (c :: t)))).2)
    else if wordS ((c :: t).take (runS wordyC (c :: t))) = 0 then .bad 3
    else .tok ⟨wordS ((c :: t).take (runS wordyC (c :: t))), runS wordyC (c :: t), [], 0⟩
def tkC (kind from_ to : Int) (text : List UInt8) (n : Int) : List AV := [.int .i64 kind, .int .i64 from_, .int .i64 to, .str text, .int .i64 n]
def tkAt (k : Nat) (t : Tk) : List AV := tkC t.kind k (k + t.len : Nat) t.text t.n
def tk0 : List AV := tkC 0 0 0 [] 0
def TokR (k : Nat) (r : AV) : TkR → Prop
  | .bad e => ∃ j, r = .tup [.agg tk0, troub j e]
  | .tok t => r = .tup [.agg (tkAt k t), .nilI]
section
variable {H : Heap} {a b : List AV}
theorem two_get0 : hget (H ++ [.cells 0 a, .cells 0 b]) H.length 0 = some a := by rw [hget_new rfl, if_pos rfl]
theorem two_get1 : hget (H ++ [.cells 0 a, .cells 0 b]) (H.length + 1) 0 = some b := by
  have := hget_new (H := H ++ [.cells 0 a]) (b := H.length + 1) (v := 0) (v' := 0) (cs := b) (l := []) (by simp)
  simpa using this
theorem two_put0 {off : Nat} {xs : List AV} (hl : off + xs.length ≤ a.length) (hx : xs.all AV.leaf = true) : hput H.length (H ++ [.cells 0 a, .cells 0 b]) H.length 0 off xs = some (H ++ [.cells 0 (splice a off xs), .cells 0 b]) := by
  rw [hput_new rfl (Nat.le_refl _) hl hx]
theorem two_put1 {off : Nat} {xs : List AV} (hl : off + xs.length ≤ b.length) (hx : xs.all AV.leaf = true) : hput H.length (H ++ [.cells 0 a, .cells 0 b]) (H.length + 1) 0 off xs = some (H ++ [.cells 0 a, .cells 0 (splice b off xs)]) := by
  have := hput_new (H := H ++ [.cells 0 a]) (prot := H.length) (b := H.length + 1) (v := 0) (off := off) (xs := xs) (cs := b) (l := []) (by simp) (by simp) hl hx
  simpa using this
end
theorem idxByte_le (c : UInt8) : idxByte [123, 125, 91, 93, 58, 44] c ≤ 5 := by
  unfold idxByte
  split
  · rename_i i h
    have := List.mem_range.1 (List.mem_of_find?_eq_some h)
    simp at this
    omega
  · omega

theorem token_ok (s : List UInt8) (hl : s.length < 100000000000000) (k : Nat) (hk : k < s.length) (prot : Nat) (H : Heap) (hp : prot ≤ H.length) :
    ∃ r, TokR k r (tokS (s.drop k)) ∧ aLim cfg prot 36 [.str s, .int .i64 k] H = some (r, none) := by
  have hsnap : snap H [.str s, .int .i64 k] = some ([.str s, .int .i64 k], false) := rfl
  have hls : ∀ K, aLen Tryd.prog K 9 (.str s) = some (.int .i64 s.length) := fun K => str_len Tryd.underlying9 s K
  have hd : s.drop k = s[k] :: s.drop (k + 1) := List.drop_eq_getElem_cons hk
  have e1 := str_at (k := .i64) Tryd.underlying9 s hk
  have hT : tokS (s.drop k) = tokS (s[k] :: s.drop (k + 1)) := by rw [hd]
  have w1 : IntKind.i64.wrap ((k : Int) + 1) = ((k + 1 : Nat) : Int) := by rw [wrap64 (by omega) (by omega)]; simp
  rw [hT, tokS]
  generalize hc : s[k] = c at *
  have hlK : ∀ a b : Blk, H.length ≤ (H ++ [a, b]).length := fun a b => by simp
  have ni := fun a b => idxS_ok signs c H.length (H ++ [a, b]) (hlK a b)
  have hs : signs = [123, 125, 91, 93, 58, 44] := rfl
  rw [hs] at ni ⊢
  refine pure_slimE rfl (by kernel_rfl) Tryd.func36 s36 hp hsnap (by simp [Tryd.f36]) fun fr hlen h => ?_
  simp only [Has, Nat.zero_add] at h
  obtain ⟨a0, a1, -⟩ := h
  simp only [Tryd.f36] at hlen ⊢
  unfold g36
  have hl1 : ∀ a : Blk, (H ++ [a]).length = H.length + 1 := fun a => by simp
  have ha2 : ∀ a b : Blk, H ++ [a] ++ [b] = H ++ [a, b] := fun a b => by simp
  by_cases hz : 0 ≤ idxByte [123, 125, 91, 93, 58, 44] c
  · have hz5 := idxByte_le c
    rw [if_pos hz]
    generalize idxByte [123, 125, 91, 93, 58, 44] c = z at *
    have wz : IntKind.i64.wrap (1 + z) = 1 + z := by rw [wrap64 (by omega) (by omega)]
    simp only [wk, aBuiltin, AV.cells, AV.leaf, Nat.reduceEqDiff, Nat.reduceLT, Nat.reduceAdd, Nat.reduceLeDiff, reduceCtorEq, Nat.reduceMul, Nat.reduceMod, cfgP, u36, hlen, a0, a1, e1, w1, ni, hl1, ha2, two_get0, two_get1, two_put0, two_put1, hz, wz]
    refine ⟨_, show _ = _ from rfl, ?_⟩
    exact Fin_pure (l := [.agg (tkAt k ⟨1 + z, 1, [], 0⟩), .nilI]) (by simp [wk, aBuiltin, AV.cells, AV.leaf, Nat.reduceEqDiff, Nat.reduceLT, Nat.reduceAdd, Nat.reduceLeDiff, reduceCtorEq, Nat.reduceMul, Nat.reduceMod, cfgP, u36, hlen, aResults, aResult, two_get0, tkAt, tkC]) (.tup (.cons (.agg (.still (by simp [tkAt, tkC, still]))) (.cons (.still rfl) .nil))) (by simp)
  · rw [if_neg hz]
    generalize idxByte [123, 125, 91, 93, 58, 44] c = z at *
    by_cases c34 : c = 34
    · rw [if_pos c34]
      rw [c34, show (((34 : UInt8).toNat : Nat) : Int) = 34 from rfl] at e1
      have ni : ∀ a b, aLim cfg H.length 40 [.str [123, 125, 91, 93, 58, 44], .int .u8 34] (H ++ [a, b]) = some (.int .i64 z, none) := fun a b => by rw [← ni a b, c34]; rfl
      have wd : decide ((34 : Int) = 34) = true := by decide
      have nt := text_ok s hl (k + 1) (by omega) H.length (H ++ [Blk.cells 0 tk0, Blk.cells 0 (tkC 0 k (k + 1 : Nat) [] 0)]) (hlK _ _)
      simp only [tk0, tkC] at nt
      cases hte : textS (s.drop (k + 1)) with
      | none =>
        rw [hte] at nt
        obtain ⟨r, ⟨i, j, rfl⟩, nt⟩ := nt
        simp only
        simp only [wk, aBuiltin, AV.cells, AV.leaf, Nat.reduceEqDiff, Nat.reduceLT, Nat.reduceAdd, Nat.reduceLeDiff, reduceCtorEq, Nat.reduceMul, Nat.reduceMod, cfgP, u36, hlen, a0, a1, e1, w1, ni, hl1, ha2, two_get0, two_get1, two_put0, two_put1, hz, wd, nt, troub, errNe]
        refine ⟨_, ⟨j, rfl⟩, ?_⟩
        exact Fin_pure (l := [.agg tk0, troub j 3]) (by simp [wk, aBuiltin, AV.cells, AV.leaf, Nat.reduceEqDiff, Nat.reduceLT, Nat.reduceAdd, Nat.reduceLeDiff, reduceCtorEq, Nat.reduceMul, Nat.reduceMod, cfgP, u36, hlen, aResults, aResult, two_get0, tk0, tkC, troub]) (.tup (.cons (.agg (.still (by simp [tk0, tkC, still]))) (.cons (.iface (.still rfl)) .nil))) (by simp)
      | some x =>
        obtain ⟨b, n⟩ := x
        rw [hte] at nt
        obtain ⟨r, hr, nt⟩ := nt
        have hr : r = .tup [.str b, .int .i64 (k + 1 + n : Nat), .nilI] := hr
        subst hr
        simp only
        rw [show k + 1 + n = k + (n + 1) by omega] at nt
        simp only [wk, aBuiltin, AV.cells, AV.leaf, Nat.reduceEqDiff, Nat.reduceLT, Nat.reduceAdd, Nat.reduceLeDiff, reduceCtorEq, Nat.reduceMul, Nat.reduceMod, cfgP, u36, hlen, a0, a1, e1, w1, ni, hl1, ha2, two_get0, two_get1, two_put0, two_put1, hz, wd, nt, nilNe]
        refine ⟨_, show _ = _ from rfl, ?_⟩
        exact Fin_pure (l := [.agg (tkAt k ⟨7, n + 1, b, 0⟩), .nilI]) (by simp [wk, aBuiltin, AV.cells, AV.leaf, Nat.reduceEqDiff, Nat.reduceLT, Nat.reduceAdd, Nat.reduceLeDiff, reduceCtorEq, Nat.reduceMul, Nat.reduceMod, cfgP, u36, hlen, aResults, aResult, two_get0, tkAt, tkC]) (.tup (.cons (.agg (.still (by simp [tkAt, tkC, still]))) (.cons (.still rfl) .nil))) (by simp)
    · rw [if_neg c34]
      have n34 : ¬ ((c.toNat : Int) = 34) := fun h => c34 (UInt8.toNat_inj.1 (by rw [show (34 : UInt8).toNat = 34 from rfl]; omega))
      have nd := fun a b => digit_ok (c.toNat : Int) H.length (H ++ [a, b]) (hlK a b)
      cases hnum : (digitC c.toNat || decide (c = 45)) with
      | true =>
        rw [if_pos rfl]
        have dn00 : decide (¬ (0 : Int) = 0) = false := by decide
        have nr := fun a b => run_ok 43 numericC numeric_ok s (by omega) k (by omega) H.length (H ++ [a, b]) (hlK a b)
        rw [hd] at nr
        have hrl := runS_le numericC (c :: s.drop (k + 1))
        have hcl : (c :: s.drop (k + 1)).length = s.length - k := by simp; omega
        have e4 := str_mid (k := .i64) (k' := .i64) Tryd.underlying9 s (a := k) (b := k + runS numericC (c :: s.drop (k + 1))) (by omega) (by omega)
        rw [hd, show k + runS numericC (c :: s.drop (k + 1)) - k = runS numericC (c :: s.drop (k + 1)) by omega] at e4
        generalize runS numericC (c :: s.drop (k + 1)) = m at *
        have np := fun a b => parse_ok ((c :: s.drop (k + 1)).take m) (by simp only [List.length_take]; omega) H.length (H ++ [a, b]) (hlK a b)
        generalize numS ((c :: s.drop (k + 1)).take m) = q at *
        obtain ⟨v, e⟩ := q
        simp only at np ⊢
        have nt := fun a b => wrong_ok k e H.length (H ++ [a, b]) (hlK a b)
        cases hdg : digitC c.toNat with
        | true =>
          rw [hdg] at nd
          by_cases he : e = 0
          · subst he
            rw [if_pos rfl]
            simp only [wk, aBuiltin, AV.cells, AV.leaf, Nat.reduceEqDiff, Nat.reduceLT, Nat.reduceAdd, Nat.reduceLeDiff, reduceCtorEq, Nat.reduceMul, Nat.reduceMod, cfgP, u36, hlen, a0, a1, e1, w1, ni, hl1, ha2, two_get0, two_get1, two_put0, two_put1, hz, n34, a0, nd, nr, e4, np, none_beq, dn00]
            refine ⟨_, show _ = _ from rfl, ?_⟩
            exact Fin_pure (l := [.agg (tkAt k ⟨8, m, [], v⟩), .nilI]) (by simp [wk, aBuiltin, AV.cells, AV.leaf, Nat.reduceEqDiff, Nat.reduceLT, Nat.reduceAdd, Nat.reduceLeDiff, reduceCtorEq, Nat.reduceMul, Nat.reduceMod, cfgP, u36, hlen, aResults, aResult, two_get0, tkAt, tkC]) (.tup (.cons (.agg (.still (by simp [tkAt, tkC, still]))) (.cons (.still rfl) .nil))) (by simp)
          · rw [if_neg he]
            have hne : decide (¬ e = 0) = true := decide_eq_true he
            simp only [wk, aBuiltin, AV.cells, AV.leaf, Nat.reduceEqDiff, Nat.reduceLT, Nat.reduceAdd, Nat.reduceLeDiff, reduceCtorEq, Nat.reduceMul, Nat.reduceMod, cfgP, u36, hlen, a0, a1, e1, w1, ni, hl1, ha2, two_get0, two_get1, two_put0, two_put1, hz, n34, a0, nd, nr, e4, np, none_beq, hne, nt]
            refine ⟨_, ⟨k, rfl⟩, ?_⟩
            exact Fin_pure (l := [.agg tk0, troub k e]) (by simp [wk, aBuiltin, AV.cells, AV.leaf, Nat.reduceEqDiff, Nat.reduceLT, Nat.reduceAdd, Nat.reduceLeDiff, reduceCtorEq, Nat.reduceMul, Nat.reduceMod, cfgP, u36, hlen, aResults, aResult, two_get0, tk0, tkC, troub]) (.tup (.cons (.agg (.still (by simp [tk0, tkC, still]))) (.cons (.iface (.still rfl)) .nil))) (by simp)
        | false =>
          rw [hdg] at nd hnum
          have c45 : c = 45 := by simpa using hnum
          have n45 : decide ((c.toNat : Int) = 45) = true := by rw [c45]; rfl
          by_cases he : e = 0
          · subst he
            rw [if_pos rfl]
            simp only [wk, aBuiltin, AV.cells, AV.leaf, Nat.reduceEqDiff, Nat.reduceLT, Nat.reduceAdd, Nat.reduceLeDiff, reduceCtorEq, Nat.reduceMul, Nat.reduceMod, cfgP, u36, hlen, a0, a1, e1, w1, ni, hl1, ha2, two_get0, two_get1, two_put0, two_put1, hz, n34, n45, nd, nr, e4, np, none_beq, dn00]
            refine ⟨_, show _ = _ from rfl, ?_⟩
            exact Fin_pure (l := [.agg (tkAt k ⟨8, m, [], v⟩), .nilI]) (by simp [wk, aBuiltin, AV.cells, AV.leaf, Nat.reduceEqDiff, Nat.reduceLT, Nat.reduceAdd, Nat.reduceLeDiff, reduceCtorEq, Nat.reduceMul, Nat.reduceMod, cfgP, u36, hlen, aResults, aResult, two_get0, tkAt, tkC]) (.tup (.cons (.agg (.still (by simp [tkAt, tkC, still]))) (.cons (.still rfl) .nil))) (by simp)
          · rw [if_neg he]
            have hne : decide (¬ e = 0) = true := decide_eq_true he
            simp only [wk, aBuiltin, AV.cells, AV.leaf, Nat.reduceEqDiff, Nat.reduceLT, Nat.reduceAdd, Nat.reduceLeDiff, reduceCtorEq, Nat.reduceMul, Nat.reduceMod, cfgP, u36, hlen, a0, a1, e1, w1, ni, hl1, ha2, two_get0, two_get1, two_put0, two_put1, hz, n34, n45, nd, nr, e4, np, none_beq, hne, nt]
            refine ⟨_, ⟨k, rfl⟩, ?_⟩
            exact Fin_pure (l := [.agg tk0, troub k e]) (by simp [wk, aBuiltin, AV.cells, AV.leaf, Nat.reduceEqDiff, Nat.reduceLT, Nat.reduceAdd, Nat.reduceLeDiff, reduceCtorEq, Nat.reduceMul, Nat.reduceMod, cfgP, u36, hlen, aResults, aResult, two_get0, tk0, tkC, troub]) (.tup (.cons (.agg (.still (by simp [tk0, tkC, still]))) (.cons (.iface (.still rfl)) .nil))) (by simp)
      | false =>
        rw [if_neg (by simp)]
        simp only [Bool.or_eq_false_iff, decide_eq_false_iff_not] at hnum
        obtain ⟨hdg, c45⟩ := hnum
        have n45 : ¬ ((c.toNat : Int) = 45) := fun h => c45 (UInt8.toNat_inj.1 (by rw [show (45 : UInt8).toNat = 45 from rfl]; omega))
        rw [hdg] at nd
        have nr := fun a b => run_ok 46 wordyC wordy_ok s (by omega) k (by omega) H.length (H ++ [a, b]) (hlK a b)
        rw [hd] at nr
        have hrl := runS_le wordyC (c :: s.drop (k + 1))
        have hcl : (c :: s.drop (k + 1)).length = s.length - k := by simp; omega
        have e4 := str_mid (k := .i64) (k' := .i64) Tryd.underlying9 s (a := k) (b := k + runS wordyC (c :: s.drop (k + 1))) (by omega) (by omega)
        rw [hd, show k + runS wordyC (c :: s.drop (k + 1)) - k = runS wordyC (c :: s.drop (k + 1)) by omega] at e4
        generalize runS wordyC (c :: s.drop (k + 1)) = m at *
        have nw := fun a b => word_ok ((c :: s.drop (k + 1)).take m) H.length (H ++ [a, b]) (hlK a b)
        have nt := fun a b => wrong_ok k 3 H.length (H ++ [a, b]) (hlK a b)
        generalize wordS ((c :: s.drop (k + 1)).take m) = x at *
        by_cases hx : x = 0
        · rw [if_pos hx]
          simp only [wk, aBuiltin, AV.cells, AV.leaf, Nat.reduceEqDiff, Nat.reduceLT, Nat.reduceAdd, Nat.reduceLeDiff, reduceCtorEq, Nat.reduceMul, Nat.reduceMod, cfgP, u36, hlen, a0, a1, e1, w1, ni, hl1, ha2, two_get0, two_get1, two_put0, two_put1, hz, n34, n45, nd, nr, e4, nw, hx, nt, none_beq]
          refine ⟨_, ⟨k, rfl⟩, ?_⟩
          exact Fin_pure (l := [.agg tk0, troub k 3]) (by simp [wk, aBuiltin, AV.cells, AV.leaf, Nat.reduceEqDiff, Nat.reduceLT, Nat.reduceAdd, Nat.reduceLeDiff, reduceCtorEq, Nat.reduceMul, Nat.reduceMod, cfgP, u36, hlen, aResults, aResult, two_get0, tk0, tkC, troub]) (.tup (.cons (.agg (.still (by simp [tk0, tkC, still]))) (.cons (.iface (.still rfl)) .nil))) (by simp)
        · rw [if_neg hx]
          simp only [wk, aBuiltin, AV.cells, AV.leaf, Nat.reduceEqDiff, Nat.reduceLT, Nat.reduceAdd, Nat.reduceLeDiff, reduceCtorEq, Nat.reduceMul, Nat.reduceMod, cfgP, u36, hlen, a0, a1, e1, w1, ni, hl1, ha2, two_get0, two_get1, two_put0, two_put1, hz, n34, n45, nd, nr, e4, nw, hx, none_beq]
          refine ⟨_, show _ = _ from rfl, ?_⟩
          exact Fin_pure (l := [.agg (tkAt k ⟨x, m, [], 0⟩), .nilI]) (by simp [wk, aBuiltin, AV.cells, AV.leaf, Nat.reduceEqDiff, Nat.reduceLT, Nat.reduceAdd, Nat.reduceLeDiff, reduceCtorEq, Nat.reduceMul, Nat.reduceMod, cfgP, u36, hlen, aResults, aResult, two_get0, tkAt, tkC]) (.tup (.cons (.agg (.still (by simp [tkAt, tkC, still]))) (.cons (.still rfl) .nil))) (by simp)
end Go.Proofs.YtimbhlbkidmplaaDoor
/- jtok.Next, jtok.All, walked. -/
namespace Go.Proofs.YtimbhlbkidmplaaDoor
open Go Go.Abs AbsSeat Ty

theorem u27 : type_of% (And.intro (show tagT Tryd.prog 49 = 0 from by kernel_rfl) (And.intro ag3 (And.intro sz3 (And.intro by3 (And.intro ze3 (And.intro Tryd.underlying3 (And.intro ag9 (And.intro sz9 (And.intro by9 (And.intro ze9 (And.intro Tryd.underlying9 (And.intro ag49 (And.intro sz49 (And.intro by49 (And.intro ze49 (And.intro bu49 (And.intro Tryd.underlying49 (And.intro ag75 (And.intro sz75 (And.intro by75 (And.intro ze75 (And.intro Tryd.underlying75 (And.intro ag77 (And.intro sz77 (And.intro by77 (And.intro ze77 Tryd.underlying77)))))))))))))))))))))))))) := And.intro (show tagT Tryd.prog 49 = 0 from by kernel_rfl) (And.intro ag3 (And.intro sz3 (And.intro by3 (And.intro ze3 (And.intro Tryd.underlying3 (And.intro ag9 (And.intro sz9 (And.intro by9 (And.intro ze9 (And.intro Tryd.underlying9 (And.intro ag49 (And.intro sz49 (And.intro by49 (And.intro ze49 (And.intro bu49 (And.intro Tryd.underlying49 (And.intro ag75 (And.intro sz75 (And.intro by75 (And.intro ze75 (And.intro Tryd.underlying75 (And.intro ag77 (And.intro sz77 (And.intro by77 (And.intro ze77 Tryd.underlying77)))))))))))))))))))))))))
def g27 : Code :=
  .seq (.region 0 #[q 4 (.alloc 49) 0, q 5 (.assign (ik 0)) 33] false) (.seq (.seq (.region 1 #[q 8 (.move (.tmp 1)) 3, q 9 (.binOp .lss 3 (.tmp 8) (ik 0) 3) 4, q 10 (.move (.tmp 9)) 4, qg 11 (.move (.tmp 1)) 3 2 false, qg 12 (.move (.tmp 0)) 9 2 false, qg 13 (bi .len #[.tmp 12] #[9]) 3 2 false, qg 14 (.binOp .gtr 3 (.tmp 11) (.tmp 13) 3) 4 2 false, q 15 (.pick (.tmp 10) (.const (.bool true)) (.tmp 14)) 4] false) (.cond (.tmp 15) (.seq (.region 2 #[q 16 (.build 49 #[]) 49, qn (.store 49 (.tmp 4) (.tmp 16)) 0, q 5 (.assign (ik 1)) 33] false) .ret) .skip)) (.seq (.region 3 #[q 17 (.move (.tmp 0)) 9, q 18 (.move (.tmp 1)) 3, q 19 (cl 34 #[.tmp 17, .tmp 18, .func 35] #[9, 3, 75]) 3, q 1 (.assign (.tmp 19)) 3] false) (.seq (.seq (.region 4 #[q 20 (.move (.tmp 1)) 3, q 21 (.move (.tmp 0)) 9, q 22 (bi .len #[.tmp 21] #[9]) 3, q 23 (.binOp .eql 3 (.tmp 20) (.tmp 22) 3) 4] false) (.cond (.tmp 23) (.seq (.region 5 #[q 24 (.build 49 #[]) 49, qn (.store 49 (.tmp 4) (.tmp 24)) 0, q 5 (.assign (ik 6)) 33] false) .ret) .skip)) (.seq (.region 6 #[q 26 (.move (.tmp 0)) 9, q 27 (.move (.tmp 1)) 3, q 28 (cl 36 #[.tmp 26, .tmp 27] #[9, 3]) 78, q 25 (.move (.tmp 28)) 78, q 29 (.extract (.tmp 25) 0) 49, q 30 (.extract (.tmp 25) 1) 77, q 6 (.alloc 49) 0, qn (.store 49 (.tmp 6) (.tmp 29)) 0, q 7 (.assign (.tmp 30)) 77] false) (.seq (.seq (.region 7 #[q 31 (.move (.tmp 7)) 77, q 32 (.binOp .neq 77 (.tmp 31) (.const .nilIface) 77) 4] false) (.cond (.tmp 32) (.seq (.region 8 #[q 33 (.build 49 #[]) 49, q 34 (.move (.tmp 7)) 77, q 35 (cl 37 #[.tmp 34] #[77]) 33, qn (.store 49 (.tmp 4) (.tmp 33)) 0, q 5 (.assign (.tmp 35)) 33] false) .ret) .skip)) (.seq (.region 9 #[q 36 (.load 49 (.tmp 6)) 49, qn (.store 49 (.tmp 4) (.tmp 36)) 0, q 5 (.assign (ik 0)) 33] false) .ret))))))
theorem s27 : Tryd.f27.body.map (slim cfg) = some g27 := by kernel_rfl
def nextV (k : Nat) (r : List UInt8) : AV := match tokS (r.drop (runS blankC r)) with
  | .bad e => .tup [.agg tk0, .int .i64 e]
  | .tok t => .tup [.agg (tkAt (k + runS blankC r) t), .int .i64 0]

theorem next_tok (s : List UInt8) (hl : s.length < 100000000000000) (k : Nat) (hk : k ≤ s.length) (prot : Nat) (H : Heap) (hg0 : hget H 0 (gver 0) = some [ET]) (hp : prot ≤ H.length) :
    aLim cfg prot 27 [.str s, .int .i64 k] H = some (nextV k (s.drop k), none) := by
  have hsnap : snap H [.str s, .int .i64 k] = some ([.str s, .int .i64 k], false) := rfl
  have hls : ∀ K, aLen Tryd.prog K 9 (.str s) = some (.int .i64 s.length) := fun K => str_len Tryd.underlying9 s K
  have hk0 : ¬ ((k : Int) < 0) := by omega
  have hk1 : ¬ (((s.length : Nat) : Int) < k) := by omega
  have nr := fun a => run_ok 35 blankC blank_ok s (by omega) k (by omega) H.length (H ++ [a]) (by simp)
  have hrl := runS_le blankC (s.drop k)
  simp only [List.length_drop] at hrl
  unfold nextV
  rw [List.drop_drop]
  generalize hb : runS blankC (s.drop k) = b at *
  refine pure_slim rfl (by kernel_rfl) Tryd.func27 s27 hp hsnap (by simp [Tryd.f27]) fun fr hlen h => ?_
  simp only [Has, Nat.zero_add] at h
  obtain ⟨a0, a1, -⟩ := h
  simp only [Tryd.f27] at hlen ⊢
  unfold g27
  have hl1 : ∀ a : Blk, (H ++ [a]).length = H.length + 1 := fun a => by simp
  have ha2 : ∀ a b : Blk, H ++ [a] ++ [b] = H ++ [a, b] := fun a b => by simp
  by_cases he : k + b = s.length
  · have hd : s.drop (k + b) = [] := by simp; omega
    have heq : decide (((k + b : Nat) : Int) = (s.length : Nat)) = true := decide_eq_true (by omega)
    rw [hd, tokS]
    simp only [wk, aBuiltin, AV.cells, AV.leaf, Nat.reduceEqDiff, Nat.reduceLT, Nat.reduceAdd, Nat.reduceLeDiff, reduceCtorEq, Nat.reduceMul, Nat.reduceMod, cfgP, u27, hlen, a0, a1, hk0, hk1, hls, nr, none_beq, heq]
    exact Fin_pure (l := [.agg tk0, .int .i64 6]) (by simp [wk, aBuiltin, AV.cells, AV.leaf, Nat.reduceEqDiff, Nat.reduceLT, Nat.reduceAdd, Nat.reduceLeDiff, reduceCtorEq, Nat.reduceMul, Nat.reduceMod, cfgP, u27, hlen, aResults, aResult, tk0, tkC]) (.tup (.cons (.agg (.still (by simp [tk0, tkC, still]))) (.cons (.still rfl) .nil))) (by simp)
  · have heq : decide (((k + b : Nat) : Int) = (s.length : Nat)) = false := decide_eq_false (by omega)
    obtain ⟨r, hr, nt⟩ := token_ok s hl (k + b) (by omega) H.length (H ++ [Blk.cells 0 tk0]) (by simp)
    simp only [tk0, tkC] at nt
    cases htk : tokS (s.drop (k + b)) with
    | bad e =>
      rw [htk] at hr
      obtain ⟨j, rfl⟩ := hr
      have nn := fun a b => number_ok j e H.length (H ++ [a, b]) (hget_mono hg0 _) (by simp)
      simp only [troub, tk0, tkC] at nt nn
      simp only [wk, aBuiltin, AV.cells, AV.leaf, Nat.reduceEqDiff, Nat.reduceLT, Nat.reduceAdd, Nat.reduceLeDiff, reduceCtorEq, Nat.reduceMul, Nat.reduceMod, cfgP, u27, hlen, a0, a1, hk0, hk1, hls, nr, none_beq, heq, nt, hl1, ha2, two_get0, two_get1, two_put0, two_put1, errNe, nn]
      exact Fin_pure (l := [.agg tk0, .int .i64 e]) (by simp [wk, aBuiltin, AV.cells, AV.leaf, Nat.reduceEqDiff, Nat.reduceLT, Nat.reduceAdd, Nat.reduceLeDiff, reduceCtorEq, Nat.reduceMul, Nat.reduceMod, cfgP, u27, hlen, aResults, aResult, tk0, tkC, two_get0]) (.tup (.cons (.agg (.still (by simp [tk0, tkC, still]))) (.cons (.still rfl) .nil))) (by simp)
    | tok t =>
      rw [htk] at hr
      have hr : r = .tup [.agg (tkAt (k + b) t), .nilI] := hr
      subst hr
      simp only [tkAt, tkC] at nt ⊢
      simp only [wk, aBuiltin, AV.cells, AV.leaf, Nat.reduceEqDiff, Nat.reduceLT, Nat.reduceAdd, Nat.reduceLeDiff, reduceCtorEq, Nat.reduceMul, Nat.reduceMod, cfgP, u27, hlen, a0, a1, hk0, hk1, hls, nr, none_beq, heq, nt, hl1, ha2, two_get0, two_get1, two_put0, two_put1, nilNe]
      exact Fin_pure (l := [.agg (tkAt (k + b) t), .int .i64 0]) (by simp [wk, aBuiltin, AV.cells, AV.leaf, Nat.reduceEqDiff, Nat.reduceLT, Nat.reduceAdd, Nat.reduceLeDiff, reduceCtorEq, Nat.reduceMul, Nat.reduceMod, cfgP, u27, hlen, aResults, aResult, tkAt, tkC, two_get0]) (.tup (.cons (.agg (.still (by simp [tkAt, tkC, still]))) (.cons (.still rfl) .nil))) (by simp)
end Go.Proofs.YtimbhlbkidmplaaDoor
/- jtok.All, walked. -/
namespace Go.Proofs.YtimbhlbkidmplaaDoor
open Go Go.Abs AbsSeat Ty

theorem u33 : type_of% (And.intro (show tagT Tryd.prog 49 = 0 from by kernel_rfl) (And.intro ag1 (And.intro sz1 (And.intro by1 (And.intro ze1 (And.intro Tryd.underlying1 (And.intro ag3 (And.intro sz3 (And.intro by3 (And.intro ze3 (And.intro Tryd.underlying3 (And.intro ag9 (And.intro sz9 (And.intro by9 (And.intro ze9 (And.intro Tryd.underlying9 (And.intro ag33 (And.intro sz33 (And.intro by33 (And.intro ze33 (And.intro Tryd.underlying33 (And.intro ag49 (And.intro sz49 (And.intro by49 (And.intro ze49 (And.intro bu49 (And.intro Tryd.underlying49 (And.intro ag71 (And.intro sz71 (And.intro by71 (And.intro se71 (And.intro ze71 (And.intro Tryd.underlying71 (And.intro ag75 (And.intro sz75 (And.intro by75 (And.intro ze75 (And.intro Tryd.underlying75 (And.intro ag77 (And.intro sz77 (And.intro by77 (And.intro ze77 (And.intro Tryd.underlying77 (And.intro fa49_2 fd49_2)))))))))))))))))))))))))))))))))))))))))))) := And.intro (show tagT Tryd.prog 49 = 0 from by kernel_rfl) (And.intro ag1 (And.intro sz1 (And.intro by1 (And.intro ze1 (And.intro Tryd.underlying1 (And.intro ag3 (And.intro sz3 (And.intro by3 (And.intro ze3 (And.intro Tryd.underlying3 (And.intro ag9 (And.intro sz9 (And.intro by9 (And.intro ze9 (And.intro Tryd.underlying9 (And.intro ag33 (And.intro sz33 (And.intro by33 (And.intro ze33 (And.intro Tryd.underlying33 (And.intro ag49 (And.intro sz49 (And.intro by49 (And.intro ze49 (And.intro bu49 (And.intro Tryd.underlying49 (And.intro ag71 (And.intro sz71 (And.intro by71 (And.intro se71 (And.intro ze71 (And.intro Tryd.underlying71 (And.intro ag75 (And.intro sz75 (And.intro by75 (And.intro ze75 (And.intro Tryd.underlying75 (And.intro ag77 (And.intro sz77 (And.intro by77 (And.intro ze77 (And.intro Tryd.underlying77 (And.intro fa49_2 fd49_2)))))))))))))))))))))))))))))))))))))))))))
def g33 : Code :=
  .seq (.region 0 #[q 2 (.assign (.const (.slice none 0 0))) 71, q 3 (.assign (ik 0)) 3, q 4 (.assign (ik 0)) 33] false) (.seq (.region 1 #[q 5 (.assign (.const (.slice none 0 0))) 71] false) (.seq (.region 2 #[q 6 (.assign (ik 0)) 3] false) (.block 0 (.loop (.block 1 (.seq (.region 3 #[q 10 (.move (.tmp 0)) 9, q 11 (.move (.tmp 6)) 3, q 12 (cl 27 #[.tmp 10, .tmp 11] #[9, 3]) 58, q 9 (.move (.tmp 12)) 58, q 13 (.extract (.tmp 9) 0) 49, q 14 (.extract (.tmp 9) 1) 33, q 7 (.alloc 49) 0, qn (.store 49 (.tmp 7) (.tmp 13)) 0, q 8 (.assign (.tmp 14)) 33] false) (.seq (.seq (.region 4 #[q 15 (.move (.tmp 8)) 33, q 16 (.makeInterface 33 (.tmp 15)) 77, q 17 (.makeInterface 33 (ik 6)) 77, q 18 (cl 39 #[.tmp 16, .tmp 17] #[77, 77]) 4] false) (.cond (.tmp 18) (.seq (.region 5 #[q 19 (.move (.tmp 5)) 71, q 20 (.move (.tmp 0)) 9, q 21 (bi .len #[.tmp 20] #[9]) 3, q 2 (.assign (.tmp 19)) 71, q 3 (.assign (.tmp 21)) 3, q 4 (.assign (ik 0)) 33] false) .ret) .skip)) (.seq (.seq (.region 6 #[q 22 (.move (.tmp 8)) 33, q 23 (.binOp .neq 33 (.tmp 22) (ik 0) 33) 4] false) (.cond (.tmp 23) (.seq (.region 7 #[q 24 (.move (.tmp 5)) 71, q 25 (.move (.tmp 0)) 9, q 26 (.move (.tmp 6)) 3, q 27 (cl 34 #[.tmp 25, .tmp 26, .func 35] #[9, 3, 75]) 3, q 28 (.move (.tmp 8)) 33, q 2 (.assign (.tmp 24)) 71, q 3 (.assign (.tmp 27)) 3, q 4 (.assign (.tmp 28)) 33] false) .ret) .skip)) (.seq (.region 8 #[q 29 (.move (.tmp 5)) 71, q 30 (.load 49 (.tmp 7)) 49, q 31 (.buildSlice 71 1 #[(0, .tmp 30)]) 71, q 32 (bi .append #[.tmp 29, .tmp 31] #[71, 71]) 71, q 5 (.assign (.tmp 32)) 71] false) (.region 9 #[q 33 (.fieldAddr 49 (.tmp 7) 2) 0, q 34 (.load 3 (.tmp 33)) 3, q 6 (.assign (.tmp 34)) 3] false))))))))))
theorem s33 : Tryd.f33.body.map (slim cfg) = some g33 := by kernel_rfl
theorem textS_pos : ∀ (m : Nat) (r : List UInt8), r.length ≤ m → ∀ (b : List UInt8) (n : Nat), textS r = some (b, n) → 1 ≤ n ∧ n ≤ r.length
  | m, [], _, b, n, h => by rw [textS_nil] at h; cases h
  | 0, c :: t, hm, _, _, _ => by simp at hm
  | m + 1, c :: t, hm, b, n, h => by
    simp only [List.length_cons] at hm ⊢
    by_cases h1 : c = 34
    · subst h1
      rw [textS_end] at h
      cases h; omega
    · by_cases h2 : c.toNat < 32
      · rw [textS_low t h1 h2] at h; cases h
      · by_cases h3 : c = 92
        · subst h3
          cases he : escS t with
          | none => rw [textS_escE he] at h; cases h
          | some x =>
            obtain ⟨b1, n1⟩ := x
            rw [textS_esc he] at h
            obtain ⟨p1, p2, _⟩ := escS_pos he
            cases hx : textS (t.drop n1) with
            | none => rw [hx] at h; cases h
            | some y =>
              obtain ⟨b2, n2⟩ := y
              have := textS_pos m (t.drop n1) (by simp; omega) b2 n2 hx
              rw [hx] at h
              simp only [List.length_drop] at this
              simp only [Option.map_some, Option.some.injEq, Prod.mk.injEq] at h
              omega
        · by_cases h4 : (nextU ((c :: t).take 4)).2.2 = 0
          · rw [textS_rune h1 h2 h3 h4] at h
            obtain ⟨p1, p2⟩ := nextU_pos h4
            simp only [List.length_take, List.length_cons] at p2
            cases hx : textS ((c :: t).drop (nextU ((c :: t).take 4)).2.1) with
            | none => rw [hx] at h; cases h
            | some y =>
              obtain ⟨b2, n2⟩ := y
              have := textS_pos m ((c :: t).drop (nextU ((c :: t).take 4)).2.1) (by simp only [List.length_drop, List.length_cons]; omega) b2 n2 hx
              rw [hx] at h
              simp only [List.length_drop, List.length_cons] at this
              simp only [Option.map_some, Option.some.injEq, Prod.mk.injEq] at h
              omega
          · rw [textS_bad h1 h2 h3 h4] at h; cases h
theorem numS_nil : (numS []).2 = 3 := by simp [numS, numD]
theorem wordS_nil : wordS [] = 0 := by decide
theorem tokS_pos {r : List UInt8} {t : Tk} (h : tokS r = .tok t) : 1 ≤ t.len ∧ t.len ≤ r.length := by
  cases r with
  | nil => cases h
  | cons c u =>
    rw [tokS] at h
    split at h
    · cases h; simp
    · split at h
      · cases hx : textS u with
        | none => rw [hx] at h; cases h
        | some y =>
          obtain ⟨b, n⟩ := y
          rw [hx] at h
          have := textS_pos u.length u (Nat.le_refl _) b n hx
          cases h
          simp only [List.length_cons]
          omega
      · split at h
        · split at h
          · rename_i h0
            have hr := runS_le numericC (c :: u)
            cases h
            refine ⟨?_, hr⟩
            rcases Nat.eq_zero_or_pos (runS numericC (c :: u)) with h1 | h1
            · rw [h1, List.take_zero, numS_nil] at h0; cases h0
            · exact h1
          · cases h
        · split at h
          · cases h
          · rename_i h0
            have hr := runS_le wordyC (c :: u)
            cases h
            refine ⟨?_, hr⟩
            rcases Nat.eq_zero_or_pos (runS wordyC (c :: u)) with h1 | h1
            · rw [h1, List.take_zero] at h0; exact absurd wordS_nil h0
            · exact h1
theorem tokS_ne {r : List UInt8} {e : Int} (h : tokS r = .bad e) : e ≠ 0 := by
  cases r with
  | nil => cases h; decide
  | cons c u =>
    rw [tokS] at h
    split at h
    · cases h
    · split at h
      · cases hx : textS u with
        | none => rw [hx] at h; cases h; decide
        | some y => rw [hx] at h; cases h
      · split at h
        · split at h
          · cases h
          · rename_i h0; cases h; exact h0
        · split at h
          · cases h; decide
          · cases h
/-- all tokens of bytes that stand at a place, and where it goes wrong, and why. -/
def allS (k : Nat) (r : List UInt8) : List (Nat × Tk) × Nat × Int :=
  match _h : tokS (r.drop (runS blankC r)) with
  | .bad e => ([], if e = 6 then k + r.length else k + runS blankC r, if e = 6 then 0 else e)
  | .tok t => ((k + runS blankC r, t) :: (allS (k + runS blankC r + t.len) (r.drop (runS blankC r + t.len))).1, (allS (k + runS blankC r + t.len) (r.drop (runS blankC r + t.len))).2)
termination_by r.length
decreasing_by all_goals (have := tokS_pos _h; simp only [List.length_drop] at this ⊢; omega)
theorem allS_bad {k : Nat} {r : List UInt8} {e : Int} (h : tokS (r.drop (runS blankC r)) = .bad e) : allS k r = ([], if e = 6 then k + r.length else k + runS blankC r, if e = 6 then 0 else e) := by
  rw [allS]
  split
  · rename_i h2; rw [h] at h2; cases h2; rfl
  · rename_i h2; rw [h] at h2; cases h2
theorem allS_tok {k : Nat} {r : List UInt8} {t : Tk} (h : tokS (r.drop (runS blankC r)) = .tok t) : allS k r = ((k + runS blankC r, t) :: (allS (k + runS blankC r + t.len) (r.drop (runS blankC r + t.len))).1, (allS (k + runS blankC r + t.len) (r.drop (runS blankC r + t.len))).2) := by
  rw [allS]
  split
  · rename_i h2; rw [h] at h2; cases h2
  · rename_i h2; rw [h] at h2; cases h2; rfl
def encTk (x : Nat × Tk) : AV := .agg (tkAt x.1 x.2)
theorem encTk_T : EncT encTk 5 true where
  len _ := rfl
  leaf x c hc := by simp [encTk, tkAt, tkC, AV.cells] at hc; rcases hc with rfl | rfl | rfl | rfl | rfl <;> rfl
  still x c hc := by simp [encTk, tkAt, tkC, AV.cells] at hc; rcases hc with rfl | rfl | rfl | rfl | rfl <;> rfl
  shape _ := rfl
theorem rowTk : RowT Tryd.prog 71 49 5 48 true where
  un := Tryd.underlying71
  size := sz49
  bytes := by49
  agg := ag49
  zero := ⟨_, ze49, rfl⟩
  pos := by decide
  tree := rfl
theorem hxtTk : (∃ e', Tryd.prog.underlying 71 = some (.slice e')) ∨ Tryd.prog.underlying 71 = some .string := .inl ⟨_, Tryd.underlying71⟩
theorem litTk (x : Nat × Tk) (H : Heap) : aBuildSlice Tryd.prog H 71 1 [(0, .agg [.int .i64 x.2.kind, .int .i64 x.1, .int .i64 (x.1 + x.2.len : Nat), .str x.2.text, .int .i64 x.2.n])] = some (.vs ([x].map encTk) true, none) :=
  lit1 rowTk encTk_T ze49 rfl (by decide) x rfl

theorem all_ok (s : List UInt8) (hl : s.length < 1000000000) (prot : Nat) (H : Heap) (hg0 : hget H 0 (gver 0) = some [ET]) (hp : prot ≤ H.length) :
    aLim cfg prot 33 [.str s] H = some (.tup [slv encTk (allS 0 s).1, .int .i64 (allS 0 s).2.1, .int .i64 (allS 0 s).2.2], none) := by
  have hsnap : snap H [.str s] = some ([.str s], false) := rfl
  have hls : ∀ K, aLen Tryd.prog K 9 (.str s) = some (.int .i64 s.length) := fun K => str_len Tryd.underlying9 s K
  have hl0 := hget_lt hg0
  generalize hA : allS 0 s = A
  refine pure_slim rfl (by kernel_rfl) Tryd.func33 s33 hp hsnap (by simp [Tryd.f33]) fun fr hlen h => ?_
  simp only [Has, Nat.zero_add] at h
  obtain ⟨a0, -⟩ := h
  simp only [Tryd.f33] at hlen ⊢
  unfold g33
  simp only [wk, aBuiltin, AV.cells, AV.leaf, Nat.reduceEqDiff, Nat.reduceLT, Nat.reduceAdd, Nat.reduceLeDiff, reduceCtorEq, Nat.reduceMul, Nat.reduceMod, cfgP, u33, hlen, a0]
  refine loop_rule (fun m fr K => ∃ (k : Nat) (l : List (Nat × Tk)) (v : AV), m = s.length - k ∧ k ≤ s.length ∧ l.length ≤ k ∧ fr.length = 35 ∧ fget fr 0 = .str s ∧ fget fr 5 = v ∧ fget fr 6 = .int .i64 k ∧ H.length ≤ K.length ∧ hget K 0 (gver 0) = some [ET] ∧ Row encTk 5 true H.length K v l ∧ (v = .nilS ∨ l ≠ []) ∧
    A = (l ++ (allS k (s.drop k)).1, (allS k (s.drop k)).2)) ?_ s.length _ _ ⟨0, [], .nilS, by simp [wk, aBuiltin, AV.cells, AV.leaf, Nat.reduceEqDiff, Nat.reduceLT, Nat.reduceAdd, Nat.reduceLeDiff, reduceCtorEq, Nat.reduceMul, Nat.reduceMod, cfgP, u33, hlen, a0]; exact ⟨hg0, Row.nil, by rw [← hA]⟩⟩
  rintro m fr K ⟨k, l, v, rfl, hk, hlk, hlen, a0, a5, a6, hK, hgK, hrow, hne, hc⟩ ih
  have nx := next_tok s (by omega) k hk H.length K hgK hK
  unfold nextV at nx
  have hrl := runS_le blankC (s.drop k)
  simp only [List.length_drop] at hrl
  cases htk : tokS ((s.drop k).drop (runS blankC (s.drop k))) with
  | bad e =>
    rw [allS_bad htk] at hc
    rw [htk] at nx
    dsimp only at nx
    have hK1 : ∀ a : Blk, (K ++ [a]).length = K.length + 1 := fun a => by simp
    have ei := fun a => errIs_ok e 6 H.length (K ++ [a]) (by rw [hK1]; omega)
    have hfr : ∀ a : Blk, Frz (K ++ [a]) H.length v (slv encTk l) := fun a => (hrow.more [a]).frozen encTk_T (by decide) rfl hne
    simp only [List.append_nil] at hc
    simp only [tk0, tkC] at nx
    by_cases he : e = 6
    · subst he
      rw [if_pos rfl, if_pos rfl, List.length_drop, show k + (s.length - k) = s.length by omega] at hc
      subst hc
      have dd : decide ((6 : Int) = 6) = true := by decide
      simp only [wk, aBuiltin, AV.cells, AV.leaf, Nat.reduceEqDiff, Nat.reduceLT, Nat.reduceAdd, Nat.reduceLeDiff, reduceCtorEq, Nat.reduceMul, Nat.reduceMod, cfgP, u33, hlen, a0, a5, a6, hK, nx, ei, dd, hls]
      exact Fin_pure (l := [v, .int .i64 s.length, .int .i64 0]) (by simp [wk, aBuiltin, AV.cells, AV.leaf, Nat.reduceEqDiff, Nat.reduceLT, Nat.reduceAdd, Nat.reduceLeDiff, reduceCtorEq, Nat.reduceMul, Nat.reduceMod, cfgP, u33, hlen, aResults, aResult]) (.tup (.cons (hfr _) (.cons (.still rfl) (.cons (.still rfl) .nil)))) (by simp)
    · rw [if_neg he, if_neg he] at hc
      subst hc
      have dd : decide (e = 6) = false := decide_eq_false he
      have nr := fun a => run_ok 35 blankC blank_ok s (by omega) k (by omega) H.length (K ++ [a]) (by rw [hK1]; omega)
      generalize runS blankC (s.drop k) = b at *
      have h0 := tokS_ne htk
      · have d2 : decide (¬ e = 0) = true := decide_eq_true h0
        simp only [wk, aBuiltin, AV.cells, AV.leaf, Nat.reduceEqDiff, Nat.reduceLT, Nat.reduceAdd, Nat.reduceLeDiff, reduceCtorEq, Nat.reduceMul, Nat.reduceMod, cfgP, u33, hlen, a0, a5, a6, hK, nx, ei, dd, hls, d2, nr]
        exact Fin_pure (l := [v, .int .i64 (k + b : Nat), .int .i64 e]) (by simp [wk, aBuiltin, AV.cells, AV.leaf, Nat.reduceEqDiff, Nat.reduceLT, Nat.reduceAdd, Nat.reduceLeDiff, reduceCtorEq, Nat.reduceMul, Nat.reduceMod, cfgP, u33, hlen, aResults, aResult]) (.tup (.cons (hfr _) (.cons (.still rfl) (.cons (.still rfl) .nil)))) (by simp)
  | tok t =>
    rw [allS_tok htk] at hc
    rw [htk] at nx
    dsimp only at nx
    obtain ⟨p1, p2⟩ := tokS_pos htk
    simp only [List.length_drop] at p2
    have hK1 : ∀ a : Blk, (K ++ [a]).length = K.length + 1 := fun a => by simp
    have ei := fun a => errIs_ok 0 6 H.length (K ++ [a]) (by rw [hK1]; omega)
    have dd : decide ((0 : Int) = 6) = false := by decide
    have d2 : decide (¬ (0 : Int) = 0) = false := by decide
    generalize hb : runS blankC (s.drop k) = b at *
    have lt := fun K => litTk (k + b, t) K
    have hrow2 := hrow.more [Blk.cells 0 (tkAt (k + b) t)]
    obtain ⟨v', K', happ, hrow4, hle, hno, hold⟩ := hrow2.app (prot := H.length) (xt := 71) (x := .vs ([(k + b, t)].map encTk) true) encTk_T rowTk hxtTk (elem_vs encTk_T [(k + b, t)] true) (by simp) (by simp [roomy]; omega) (Nat.le_refl _) (by rw [hK1]; omega)
    have hnb : ∀ z, z < H.length → ∀ s, v = .bs s → s.b ≠ z := by
      rintro z hz s rfl
      rcases hrow with ⟨h, _⟩ | ⟨b', v', h, hb', _⟩
      · cases h
      · cases h; simp only; omega
    have hnk : ∀ s, v = .bs s → s.b ≠ K.length := by
      rintro s rfl
      rcases hrow with ⟨h, _⟩ | ⟨b', v', h, hb', hg', _⟩
      · cases h
      · cases h; have := hget_lt hg'; simp only; omega
    have hgK' := hold _ _ _ (hget_mono hgK [Blk.cells 0 (tkAt (k + b) t)]) (hnb _ hl0)
    have hgT := hold K.length 0 (tkAt (k + b) t) (by rw [hget_new rfl, if_pos rfl]) hnk
    have hgT0 : hget (K ++ [Blk.cells 0 (tkAt (k + b) t)]) K.length 0 = some (tkAt (k + b) t) := by rw [hget_new rfl, if_pos rfl]
    simp only [tkAt, tkC] at nx happ hgT hgT0
    simp only [wk, aBuiltin, AV.cells, AV.leaf, Nat.reduceEqDiff, Nat.reduceLT, Nat.reduceAdd, Nat.reduceLeDiff, reduceCtorEq, Nat.reduceMul, Nat.reduceMod, cfgP, u33, hlen, a0, a5, a6, hK, nx, ei, dd, d2, hls, lt, happ, hgT, hgT0]
    rw [List.drop_drop] at hc
    rw [hK1] at hle
    refine ih _ _ (s.length - (k + b + t.len)) (by omega) ⟨k + b + t.len, l ++ [(k + b, t)], v', rfl, by omega, by simp; omega, ?_⟩
    simp [wk, aBuiltin, AV.cells, AV.leaf, Nat.reduceEqDiff, Nat.reduceLT, Nat.reduceAdd, Nat.reduceLeDiff, reduceCtorEq, Nat.reduceMul, Nat.reduceMod, cfgP, u33, hlen, a0]
    refine ⟨by omega, hgK', hrow4, ?_⟩
    rw [hc]
    simp [Nat.add_assoc]
end Go.Proofs.YtimbhlbkidmplaaDoor
/- Chapter 6: values, as trees; how deep one is; those that are made, walked. -/
namespace Go.Proofs.YtimbhlbkidmplaaDoor
open Go Go.Abs AbsSeat Ty

theorem i54 : ((5 : Int) = 4) = False := by simp
/-- a row as it came or was made: nil, full, or with room. -/
def tg : Nat → List AV → AV
  | 0, [] => .nilS
  | 1, es => .vs es true
  | _, es => .vs es false
theorem tg_sl {α : Type} (enc : α → AV) (t : Nat) (l : List α) : Sl enc (tg t (l.map enc)) l := by
  cases l with
  | nil =>
    match t with
    | 0 => exact .nil
    | 1 => exact .vs [] true
    | t + 2 => exact .vs [] false
  | cons x r =>
    match t with
    | 0 => exact .vs (x :: r) false
    | 1 => exact .vs (x :: r) true
    | t + 2 => exact .vs (x :: r) false
theorem tg_still (t : Nat) (l : List AV) : still (tg t l) = true := by
  cases l <;> match t with
    | 0 => rfl
    | 1 => rfl
    | t + 2 => rfl
theorem tg_leaf (t : Nat) (l : List AV) : (tg t l).leaf = true := by
  cases l <;> match t with
    | 0 => rfl
    | 1 => rfl
    | t + 2 => rfl
theorem tg_pl (t : Nat) (l : List AV) (h : AV.plL l = true) : AV.pl (tg t l) = true := by
  cases l with
  | nil => match t with
    | 0 => rfl
    | 1 => rfl
    | t + 2 => rfl
  | cons x l => match t with
    | 0 => exact h
    | 1 => exact h
    | t + 2 => exact h
theorem tg_cells (t : Nat) (l : List AV) : (tg t l).cells = [tg t l] := by
  cases l <;> match t with
    | 0 => rfl
    | 1 => rfl
    | t + 2 => rfl
theorem slv_tg {α : Type} (enc : α → AV) (l : List α) : slv enc l = tg 0 (l.map enc) := by cases l <;> rfl

/-- a value. -/
inductive JV where
  | mk (kind : Int) (is : Bool) (n : Int) (text : List UInt8) (tag : Nat) (items : List JV) (ktag : Nat) (keys : List (List UInt8))
namespace JV
def kind : JV → Int | mk k _ _ _ _ _ _ _ => k
def is : JV → Bool | mk _ i _ _ _ _ _ _ => i
def n : JV → Int | mk _ _ n _ _ _ _ _ => n
def text : JV → List UInt8 | mk _ _ _ t _ _ _ _ => t
def tag : JV → Nat | mk _ _ _ _ t _ _ _ => t
def items : JV → List JV | mk _ _ _ _ _ l _ _ => l
def ktag : JV → Nat | mk _ _ _ _ _ _ t _ => t
def keys : JV → List (List UInt8) | mk _ _ _ _ _ _ _ l => l
end JV
mutual
def encJ : JV → AV
  | .mk k i n t tag l kt ks => .agg [.int .i64 k, .bool i, .int .i64 n, .str t, tg tag (encJs l), tg kt (ks.map .str)]
def encJs : List JV → List AV
  | [] => []
  | x :: r => encJ x :: encJs r
end
theorem encJs_map : ∀ (l : List JV), encJs l = l.map encJ
  | [] => rfl
  | x :: r => by rw [encJs, List.map_cons, encJs_map r]
theorem encJ_mk (k : Int) (i : Bool) (n : Int) (t : List UInt8) (tag : Nat) (l : List JV) (kt : Nat) (ks : List (List UInt8)) : encJ (.mk k i n t tag l kt ks) = .agg [.int .i64 k, .bool i, .int .i64 n, .str t, tg tag (l.map encJ), tg kt (ks.map .str)] := by rw [encJ, encJs_map]
def JV.iv (x : JV) : AV := tg x.tag (x.items.map encJ)
def JV.kv (x : JV) : AV := tg x.ktag (x.keys.map .str)
theorem encJ_eq (x : JV) : encJ x = .agg [.int .i64 x.kind, .bool x.is, .int .i64 x.n, .str x.text, x.iv, x.kv] := by
  cases x; rw [encJ, encJs_map]; rfl
mutual
theorem encJ_pl : ∀ (x : JV), AV.pl (encJ x) = true
  | .mk k i n t tag l kt ks => by
    rw [encJ]
    have h1 := encJs_pl l
    have h2 : AV.plL (ks.map .str) = true := by
      induction ks with
      | nil => rfl
      | cons a r ih => simp only [List.map_cons, AV.plL, AV.pl, Bool.true_and]; exact ih
    simp only [AV.pl, AV.plL, Bool.true_and, Bool.and_true, tg_pl _ _ h1, tg_pl _ _ h2]
theorem encJs_pl : ∀ (l : List JV), AV.plL (encJs l) = true
  | [] => rfl
  | x :: r => by simp only [encJs, AV.plL, encJ_pl x, encJs_pl r, Bool.and_self]
end
theorem JV.iv_sl (x : JV) : Sl encJ x.iv x.items := tg_sl encJ _ _
theorem JV.kv_sl (x : JV) : Sl AV.str x.kv x.keys := tg_sl AV.str _ _
theorem JV.iv_leaf (x : JV) : x.iv.leaf = true := tg_leaf _ _
theorem JV.kv_leaf (x : JV) : x.kv.leaf = true := tg_leaf _ _
theorem JV.iv_cells (x : JV) : x.iv.cells = [x.iv] := tg_cells _ _
theorem JV.kv_cells (x : JV) : x.kv.cells = [x.kv] := tg_cells _ _
theorem encJ_len (x : JV) : (encJ x).cells.length = 6 := by rw [encJ_eq]; rfl
theorem encJ_T : EncT encJ 6 true where
  len := encJ_len
  leaf x c hc := by
    rw [encJ_eq] at hc
    simp only [AV.cells, List.mem_cons, List.not_mem_nil, or_false] at hc
    rcases hc with rfl | rfl | rfl | rfl | rfl | rfl <;> first | rfl | exact x.iv_leaf | exact x.kv_leaf
  still x c hc := by
    rw [encJ_eq] at hc
    simp only [AV.cells, List.mem_cons, List.not_mem_nil, or_false] at hc
    rcases hc with rfl | rfl | rfl | rfl | rfl | rfl <;> first | rfl | exact tg_still _ _
  shape x := by rw [encJ_eq]; rfl
theorem encJ_still (x : JV) {H : Heap} {base : Nat} : Frz H base (encJ x) (encJ x) := by
  have h := encJ_T.shape x
  simp only [if_true] at h
  rw [h]
  exact .agg (.still fun c hc => encJ_T.still x c (by rw [h] at hc; exact hc))
theorem encJ_snap (x : JV) (H : Heap) (l : List AV) : snap H (encJ x :: l) = (snap H l).map fun (l, b) => (encJ x :: l, b) := by rw [encJ_eq]; rfl

mutual
def depthJ : JV → Nat
  | .mk k _ _ _ _ l _ _ => if k ≠ 4 ∧ k ≠ 5 then 0 else depthJs l + 1
def depthJs : List JV → Nat
  | [] => 0
  | x :: r => max (depthJ x) (depthJs r)
end
theorem depthJ_eq (x : JV) : depthJ x = if x.kind ≠ 4 ∧ x.kind ≠ 5 then 0 else depthJs x.items + 1 := by cases x; rw [depthJ]; rfl
theorem depthJs_mem {x : JV} : ∀ {l : List JV}, x ∈ l → depthJ x ≤ depthJs l
  | y :: r, h => by
    rw [depthJs]
    rcases List.mem_cons.1 h with rfl | h
    · omega
    · have := depthJs_mem h; omega
theorem depthJs_append : ∀ (a b : List JV), depthJs (a ++ b) = max (depthJs a) (depthJs b)
  | [], b => by simp [depthJs]
  | x :: a, b => by simp only [List.cons_append, depthJs, depthJs_append a b]; omega
theorem size_mem {x : JV} : ∀ {y : JV}, x ∈ y.items → SizeOf.sizeOf x < SizeOf.sizeOf y := by
  intro y h
  cases y with
  | mk k i n t tag l kt ks =>
    have := List.sizeOf_lt_of_mem h
    simp only [JV.items] at this
    simp only [JV.mk.sizeOf_spec]
    omega
/-- rows that are not too long. -/
inductive Fit (m : Nat) : JV → Prop where
  | mk (x : JV) (h1 : x.items.length ≤ m) (h2 : x.keys.length ≤ m) (h3 : ∀ y ∈ x.items, Fit m y) : Fit m x
theorem Fit.items {m : Nat} {x : JV} (h : Fit m x) : x.items.length ≤ m := by cases h; assumption
theorem Fit.keys {m : Nat} {x : JV} (h : Fit m x) : x.keys.length ≤ m := by cases h; assumption
theorem Fit.mem {m : Nat} {x y : JV} (h : Fit m x) (hy : y ∈ x.items) : Fit m y := by cases h with | mk _ _ _ h3 => exact h3 y hy

theorem u8 : type_of% (And.intro (show tagT Tryd.prog 25 = 0 from by kernel_rfl) (And.intro (fun (xo yo : Operand) (s : BS) => bs_nil_eq (xo := xo) (yo := yo) Tryd.underlying22 s) (And.intro (fun (xo yo : Operand) (es : List AV) (f : Bool) => vs_nil_eq (xo := xo) (yo := yo) Tryd.underlying22 es f) (And.intro (fun (xo yo : Operand)  => nilS_nilS_eq (xo := xo) (yo := yo) Tryd.underlying22 ) (And.intro ag0 (And.intro sz0 (And.intro by0 (And.intro Tryd.underlying0 (And.intro ag3 (And.intro sz3 (And.intro by3 (And.intro ze3 (And.intro Tryd.underlying3 (And.intro ag22 (And.intro sz22 (And.intro by22 (And.intro se22 (And.intro ze22 (And.intro Tryd.underlying22 (And.intro ag25 (And.intro sz25 (And.intro by25 (And.intro ze25 (And.intro bu25 (And.intro Tryd.underlying25 (And.intro fa25_0 (And.intro fd25_0 (And.intro fa25_4 fd25_4)))))))))))))))))))))))))))) := And.intro (show tagT Tryd.prog 25 = 0 from by kernel_rfl) (And.intro (fun (xo yo : Operand) (s : BS) => bs_nil_eq (xo := xo) (yo := yo) Tryd.underlying22 s) (And.intro (fun (xo yo : Operand) (es : List AV) (f : Bool) => vs_nil_eq (xo := xo) (yo := yo) Tryd.underlying22 es f) (And.intro (fun (xo yo : Operand)  => nilS_nilS_eq (xo := xo) (yo := yo) Tryd.underlying22 ) (And.intro ag0 (And.intro sz0 (And.intro by0 (And.intro Tryd.underlying0 (And.intro ag3 (And.intro sz3 (And.intro by3 (And.intro ze3 (And.intro Tryd.underlying3 (And.intro ag22 (And.intro sz22 (And.intro by22 (And.intro se22 (And.intro ze22 (And.intro Tryd.underlying22 (And.intro ag25 (And.intro sz25 (And.intro by25 (And.intro ze25 (And.intro bu25 (And.intro Tryd.underlying25 (And.intro fa25_0 (And.intro fd25_0 (And.intro fa25_4 fd25_4)))))))))))))))))))))))))))
def g8 : Code :=
  .seq (.region 0 #[q 2 (.alloc 25) 0] false) (.seq (.region 1 #[q 3 (.move (.tmp 0)) 9, q 4 (.build 25 #[(0, ik 3), (3, .tmp 3)]) 25, qn (.store 25 (.tmp 2) (.tmp 4)) 0] false) .ret)
theorem s8 : Tryd.f8.body.map (slim cfg) = some g8 := by kernel_rfl
def g9 : Code :=
  .seq (.region 0 #[q 2 (.alloc 25) 0] false) (.seq (.region 1 #[q 3 (.move (.tmp 0)) 2, q 4 (.build 25 #[(0, ik 2), (2, .tmp 3)]) 25, qn (.store 25 (.tmp 2) (.tmp 4)) 0] false) .ret)
theorem s9 : Tryd.f9.body.map (slim cfg) = some g9 := by kernel_rfl
def g10 : Code :=
  .seq (.region 0 #[q 2 (.alloc 25) 0] false) (.seq (.region 1 #[q 3 (.move (.tmp 0)) 4, q 4 (.build 25 #[(0, ik 1), (1, .tmp 3)]) 25, qn (.store 25 (.tmp 2) (.tmp 4)) 0] false) .ret)
theorem s10 : Tryd.f10.body.map (slim cfg) = some g10 := by kernel_rfl
def g7 : Code :=
  .seq (.region 0 #[q 2 (.alloc 25) 0] false) (.seq (.region 1 #[q 3 (.move (.tmp 0)) 22, q 4 (cl 20 #[.tmp 3] #[22]) 22, q 5 (.build 25 #[(0, ik 4), (4, .tmp 4)]) 25, qn (.store 25 (.tmp 2) (.tmp 5)) 0] false) .ret)
theorem s7 : Tryd.f7.body.map (slim cfg) = some g7 := by kernel_rfl
def g11 : Code :=
  .seq (.region 0 #[q 1 (.box 25 (.tmp 0)) 0, q 2 (.assign (ik 0)) 3] false) (.seq (.seq (.region 1 #[q 6 (.fieldAddr 25 (.tmp 1) 0) 0, q 7 (.load 3 (.tmp 6)) 3, q 8 (.binOp .neq 3 (.tmp 7) (ik 4) 3) 4, q 9 (.move (.tmp 8)) 4, qg 10 (.fieldAddr 25 (.tmp 1) 0) 0 3 true, qg 11 (.load 3 (.tmp 10)) 3 3 true, qg 12 (.binOp .neq 3 (.tmp 11) (ik 5) 3) 4 3 true, q 13 (.pick (.tmp 9) (.tmp 12) (.const (.bool false))) 4] false) (.cond (.tmp 13) (.seq (.region 2 #[q 2 (.assign (ik 0)) 3] false) .ret) .skip)) (.seq (.region 3 #[q 3 (.assign (ik 0)) 3] false) (.seq (.seq (.region 4 #[q 14 (.fieldAddr 25 (.tmp 1) 4) 0, q 15 (.load 22 (.tmp 14)) 22, q 16 (bi .len #[.tmp 15] #[22]) 3, q 17 (.move (ik 0)) 3] false) (.block 0 (.loop (.seq (.region 5 #[q 18 (.binOp .lss 3 (.tmp 17) (.tmp 16) 3) 0] false) (.seq (.cond (.tmp 18) .skip (.exit 0)) (.seq (.block 1 (.seq (.region 6 #[q 19 (.indexAddr 22 (.tmp 15) (.tmp 17)) 0, q 20 (.load 25 (.tmp 19)) 25, q 5 (.alloc 25) 0, qn (.store 25 (.tmp 5) (.tmp 20)) 0] false) (.region 7 #[q 21 (.move (.tmp 3)) 3, q 22 (.load 25 (.tmp 5)) 25, q 23 (cl 11 #[.tmp 22] #[25]) 3, q 24 (bi .max #[.tmp 21, .tmp 23] #[3, 3]) 3, q 3 (.assign (.tmp 24)) 3] false))) (.region 8 #[q 25 (.binOp .add 3 (.tmp 17) (ik 1) 3) 3, q 17 (.move (.tmp 25)) 3] false))))))) (.seq (.region 9 #[q 26 (.move (.tmp 3)) 3, q 27 (.binOp .add 3 (.tmp 26) (ik 1) 3) 3, q 2 (.assign (.tmp 27)) 3] false) .ret))))
theorem s11 : Tryd.f11.body.map (slim cfg) = some g11 := by kernel_rfl
def g20 : Code :=
  .seq (.region 0 #[q 2 (.assign (.const (.slice none 0 0))) 22] false) (.seq (.seq (.region 1 #[q 3 (.move (.tmp 0)) 22, q 4 (.binOp .eql 22 (.tmp 3) (.const (.slice none 0 0)) 22) 4] false) (.cond (.tmp 4) (.seq (.region 2 #[q 2 (.assign (.const (.slice none 0 0))) 22] false) .ret) .skip)) (.seq (.region 3 #[q 5 (.buildSlice 22 0 #[]) 22, q 6 (.move (.tmp 0)) 22, q 7 (bi .append #[.tmp 5, .tmp 6] #[22, 22]) 22, q 2 (.assign (.tmp 7)) 22] false) .ret))
theorem s20 : Tryd.f20.body.map (slim cfg) = some g20 := by kernel_rfl


theorem depth_ok : ∀ (x : JV), Fit 1000000000000 x → depthJ x < 1000000000000 → ∀ (prot : Nat) (H : Heap), prot ≤ H.length → aLim cfg prot 11 [encJ x] H = some (.int .i64 (depthJ x : Nat), none) := by
  intro x
  induction hn : SizeOf.sizeOf x using Nat.strongRecOn generalizing x with
  | _ k IH =>
  subst hn
  intro hfit hdep prot H hp
  have hsnap : snap H [encJ x] = some ([encJ x], false) := by rw [encJ_snap]; rfl
  have hfi := hfit.items
  rw [depthJ_eq] at hdep ⊢
  refine pure_slim rfl (by kernel_rfl) Tryd.func11 s11 hp hsnap (by simp [Tryd.f11]) fun fr hlen h => ?_
  simp only [Has, Nat.zero_add] at h
  obtain ⟨a0, -⟩ := h
  simp only [Tryd.f11] at hlen ⊢
  unfold g11
  rw [encJ_eq] at a0
  have hlf : x.iv.leaf = true := x.iv_leaf
  have hlf2 : x.kv.leaf = true := x.kv_leaf
  unfold AV.leaf at hlf hlf2
  by_cases h4 : x.kind = 4 ∨ x.kind = 5
  · have hk : ¬ (x.kind ≠ 4 ∧ x.kind ≠ 5) := by omega
    rw [if_neg hk] at hdep ⊢
    have hw : ∀ i : Nat, i < x.items.length → IntKind.i64.wrap ((i : Int) + 1) = ((i + 1 : Nat) : Int) := fun i hi => by rw [wrap64 (by omega) (by omega)]; simp
    have hw2 : IntKind.i64.wrap ((depthJs x.items : Nat) + 1 : Int) = ((depthJs x.items + 1 : Nat) : Int) := by rw [wrap64 (by omega) (by omega)]; simp
    rcases h4 with h4 | h4
    all_goals
      rw [h4] at a0
      simp only [wk, aBuiltin, AV.cells, AV.leaf, Nat.reduceEqDiff, Nat.reduceLT, Nat.reduceAdd, Nat.reduceLeDiff, reduceCtorEq, Nat.reduceMul, Nat.reduceMod, cfgP, u8, hlen, a0, hlf, hlf2, i54, none_beq, x.iv_sl.len Tryd.underlying22]
      refine loop_rule (fun m fr K => ∃ (i : Nat), m = x.items.length - i ∧ i ≤ x.items.length ∧ fr.length = 28 ∧ fget fr 15 = x.iv ∧ fget fr 16 = .int .i64 x.items.length ∧ fget fr 17 = .int .i64 i ∧ fget fr 3 = .int .i64 (depthJs (x.items.take i) : Nat) ∧ H.length ≤ K.length) ?_ x.items.length _ _ ⟨0, by simp [wk, aBuiltin, AV.cells, AV.leaf, Nat.reduceEqDiff, Nat.reduceLT, Nat.reduceAdd, Nat.reduceLeDiff, reduceCtorEq, Nat.reduceMul, Nat.reduceMod, cfgP, u8, hlen, depthJs]⟩
      rintro m fr K ⟨i, rfl, hi, hlen, a15, a16, a17, a3, hK⟩ ih
      simp only [wk, aBuiltin, AV.cells, AV.leaf, Nat.reduceEqDiff, Nat.reduceLT, Nat.reduceAdd, Nat.reduceLeDiff, reduceCtorEq, Nat.reduceMul, Nat.reduceMod, cfgP, u8, hlen, a15, a16, a17, a3]
      refine RC_split (fun h => ?_) (fun h => ?_)
      · have hlt : i < x.items.length := by simpa using h
        have e1 := x.iv_sl.at (k := .i64) Tryd.underlying22 sz25 encJ_len hlt
        have hmem : x.items[i] ∈ x.items := List.getElem_mem hlt
        have htk : x.items.take (i + 1) = x.items.take i ++ [x.items[i]] := List.take_succ_eq_append_getElem hlt
        have hwi := hw i hlt
        have hdj := depthJs_mem hmem
        have htd : depthJs (x.items.take (i + 1)) = max (depthJs (x.items.take i)) (depthJ x.items[i]) := by rw [htk, depthJs_append]; simp [depthJs]
        generalize hy : x.items[i] = y at *
        have n1 := fun (K : Heap) (hK : H.length ≤ K.length) => IH _ (size_mem hmem) y rfl (hfit.mem hmem) (by omega) H.length K hK
        have l1 := y.iv_leaf
        have l2 := y.kv_leaf
        unfold AV.leaf at l1 l2
        simp only [encJ_eq] at n1
        rw [encJ_eq] at e1
        simp only [wk, aBuiltin, AV.cells, AV.leaf, Nat.reduceEqDiff, Nat.reduceLT, Nat.reduceAdd, Nat.reduceLeDiff, reduceCtorEq, Nat.reduceMul, Nat.reduceMod, cfgP, u8, hlen, a15, a16, a17, a3, e1, l1, l2, y.iv_cells, y.kv_cells, hK, n1, hwi, Nat.le_trans hK (Nat.le_add_right _ 1), List.length_append]
        refine ih _ _ (x.items.length - (i + 1)) (by omega) ⟨i + 1, rfl, hlt, ?_⟩
        simp [wk, aBuiltin, AV.cells, AV.leaf, Nat.reduceEqDiff, Nat.reduceLT, Nat.reduceAdd, Nat.reduceLeDiff, reduceCtorEq, Nat.reduceMul, Nat.reduceMod, cfgP, u8, hlen, a15, a16, htd]
        omega
      · have hnl : i = x.items.length := by
          have : ¬ i < x.items.length := by simpa using h
          omega
        subst hnl
        rw [List.take_length] at a3
        simp only [wk, aBuiltin, AV.cells, AV.leaf, Nat.reduceEqDiff, Nat.reduceLT, Nat.reduceAdd, Nat.reduceLeDiff, reduceCtorEq, Nat.reduceMul, Nat.reduceMod, cfgP, u8, hlen, a3, hw2]
        exact Fin_pure (l := [.int .i64 ((depthJs x.items + 1 : Nat) : Int)]) (by simp [wk, aBuiltin, AV.cells, AV.leaf, Nat.reduceEqDiff, Nat.reduceLT, Nat.reduceAdd, Nat.reduceLeDiff, reduceCtorEq, Nat.reduceMul, Nat.reduceMod, cfgP, u8, aResults, aResult, hlen]) (.still rfl) (by simp)
  · have hk : x.kind ≠ 4 ∧ x.kind ≠ 5 := by omega
    rw [if_pos hk]
    simp only [wk, aBuiltin, AV.cells, AV.leaf, Nat.reduceEqDiff, Nat.reduceLT, Nat.reduceAdd, Nat.reduceLeDiff, reduceCtorEq, Nat.reduceMul, Nat.reduceMod, cfgP, u8, hlen, a0, hlf, hlf2, hk.1, hk.2]
    exact Fin_pure (l := [.int .i64 0]) (by simp [wk, aBuiltin, AV.cells, AV.leaf, Nat.reduceEqDiff, Nat.reduceLT, Nat.reduceAdd, Nat.reduceLeDiff, reduceCtorEq, Nat.reduceMul, Nat.reduceMod, cfgP, u8, aResults, aResult, hlen]) (.still rfl) (by simp)


theorem ofText_ok (s : List UInt8) (prot : Nat) (H : Heap) (hp : prot ≤ H.length) : aLim cfg prot 8 [.str s] H = some (encJ (.mk 3 false 0 s 0 [] 0 []), none) := by
  have hsnap : snap H [.str s] = some ([.str s], false) := rfl
  refine pure_slim rfl (by kernel_rfl) Tryd.func8 s8 hp hsnap (by simp [Tryd.f8]) fun fr hlen h => ?_
  simp only [Has, Nat.zero_add] at h
  obtain ⟨a0, -⟩ := h
  simp only [Tryd.f8] at hlen ⊢
  unfold g8
  simp only [wk, aBuiltin, AV.cells, AV.leaf, Nat.reduceEqDiff, Nat.reduceLT, Nat.reduceAdd, Nat.reduceLeDiff, reduceCtorEq, Nat.reduceMul, Nat.reduceMod, cfgP, u8, hlen, a0]
  exact Fin_pure (l := [encJ (.mk 3 false 0 s 0 [] 0 [])]) (by simp [wk, aBuiltin, AV.cells, AV.leaf, Nat.reduceEqDiff, Nat.reduceLT, Nat.reduceAdd, Nat.reduceLeDiff, reduceCtorEq, Nat.reduceMul, Nat.reduceMod, cfgP, u8, hlen, aResults, aResult, encJ_eq, JV.iv, JV.kv, tg, JV.kind, JV.is, JV.n, JV.text, JV.tag, JV.items, JV.ktag, JV.keys]) (encJ_still _) (by simp)

theorem ofNumber_ok (n : Int) (prot : Nat) (H : Heap) (hp : prot ≤ H.length) : aLim cfg prot 9 [.int .i64 n] H = some (encJ (.mk 2 false n [] 0 [] 0 []), none) := by
  have hsnap : snap H [.int .i64 n] = some ([.int .i64 n], false) := rfl
  refine pure_slim rfl (by kernel_rfl) Tryd.func9 s9 hp hsnap (by simp [Tryd.f9]) fun fr hlen h => ?_
  simp only [Has, Nat.zero_add] at h
  obtain ⟨a0, -⟩ := h
  simp only [Tryd.f9] at hlen ⊢
  unfold g9
  simp only [wk, aBuiltin, AV.cells, AV.leaf, Nat.reduceEqDiff, Nat.reduceLT, Nat.reduceAdd, Nat.reduceLeDiff, reduceCtorEq, Nat.reduceMul, Nat.reduceMod, cfgP, u8, hlen, a0]
  exact Fin_pure (l := [encJ (.mk 2 false n [] 0 [] 0 [])]) (by simp [wk, aBuiltin, AV.cells, AV.leaf, Nat.reduceEqDiff, Nat.reduceLT, Nat.reduceAdd, Nat.reduceLeDiff, reduceCtorEq, Nat.reduceMul, Nat.reduceMod, cfgP, u8, hlen, aResults, aResult, encJ_eq, JV.iv, JV.kv, tg, JV.kind, JV.is, JV.n, JV.text, JV.tag, JV.items, JV.ktag, JV.keys]) (encJ_still _) (by simp)

theorem ofBool_ok (b : Bool) (prot : Nat) (H : Heap) (hp : prot ≤ H.length) : aLim cfg prot 10 [.bool b] H = some (encJ (.mk 1 b 0 [] 0 [] 0 []), none) := by
  have hsnap : snap H [.bool b] = some ([.bool b], false) := rfl
  refine pure_slim rfl (by kernel_rfl) Tryd.func10 s10 hp hsnap (by simp [Tryd.f10]) fun fr hlen h => ?_
  simp only [Has, Nat.zero_add] at h
  obtain ⟨a0, -⟩ := h
  simp only [Tryd.f10] at hlen ⊢
  unfold g10
  simp only [wk, aBuiltin, AV.cells, AV.leaf, Nat.reduceEqDiff, Nat.reduceLT, Nat.reduceAdd, Nat.reduceLeDiff, reduceCtorEq, Nat.reduceMul, Nat.reduceMod, cfgP, u8, hlen, a0]
  exact Fin_pure (l := [encJ (.mk 1 b 0 [] 0 [] 0 [])]) (by simp [wk, aBuiltin, AV.cells, AV.leaf, Nat.reduceEqDiff, Nat.reduceLT, Nat.reduceAdd, Nat.reduceLeDiff, reduceCtorEq, Nat.reduceMul, Nat.reduceMod, cfgP, u8, hlen, aResults, aResult, encJ_eq, JV.iv, JV.kv, tg, JV.kind, JV.is, JV.n, JV.text, JV.tag, JV.items, JV.ktag, JV.keys]) (encJ_still _) (by simp)
theorem rowJ : RowT Tryd.prog 22 25 6 88 true where
  un := Tryd.underlying22
  size := sz25
  bytes := by25
  agg := ag25
  zero := ⟨_, ze25, rfl⟩
  pos := by decide
  tree := rfl
theorem hxtJ : (∃ e', Tryd.prog.underlying 22 = some (.slice e')) ∨ Tryd.prog.underlying 22 = some .string := .inl ⟨_, Tryd.underlying22⟩
theorem app_ex0 {α : Type} {enc : α → AV} {P : Program} {prot : Nat} {H : Heap} {t xt e : TypeId} {sz by_ : Nat} {ag : Bool} (ht : RowT P t e sz by_ ag) (hxt : (∃ e', P.underlying xt = some (.slice e')) ∨ P.underlying xt = some .string) (he : EncT enc sz ag)
    {m : List α} {x : AV} {b ver : Nat} (hg : hget H b ver = some []) (hx : elemCells H sz x = some (m.length, cellsOf enc m)) (hm : 0 < m.length) (hr : roomy m.length by_ = true) :
    aAppend P prot H #[t, xt] (.bs ⟨b, ver, 0, 0, 0, sz, ag, true⟩) x = some (.bs ⟨H.length, 0, 0, m.length, 0, sz, ag, false⟩, some (H ++ [Blk.cells 0 (cellsOf enc m)])) := by
  obtain ⟨z, hz, hzl⟩ := ht.zero
  have hm0 : ¬ m.length = 0 := by omega
  have hw : win ([] : List AV) 0 (0 * sz) = some [] := by simp [win]
  have hle : ¬ (m.length ≤ 0) := by omega
  rcases hxt with ⟨e', hu⟩ | hu <;> unfold aAppend <;>
  simp only [List.getElem?_toArray, List.getElem?_cons_zero, List.getElem?_cons_succ, Option.bind_some, ht.elem, ht.size, ht.bytes, ht.agg, hz, hzl, hu, hx, ne_eq, not_true_eq_false, if_false, cellsOf_leaf he m, if_true, hm0, hr, hg, hw, Nat.zero_add, hle, List.nil_append]
theorem litJ0 (K : Heap) : aBuildSlice Tryd.prog K 22 0 [] = some (.bs ⟨K.length, 0, 0, 0, 0, 6, true, true⟩, some (K ++ [Blk.cells 0 []])) := by kernel_rfl
theorem litJ3 (K : Heap) (a b c : JV) : aBuildSlice Tryd.prog K 22 3 [(0, encJ a), (1, encJ b), (2, encJ c)] = some (.bs ⟨K.length, 0, 0, 3, 3, 6, true, true⟩, some (K ++ [Blk.cells 0 (cellsOf encJ [a, b, c])])) := by
  have la := a.iv_leaf
  have la' := a.kv_leaf
  have lb := b.iv_leaf
  have lb' := b.kv_leaf
  have lc := c.iv_leaf
  have lc' := c.kv_leaf
  simp only [cellsOf, List.flatMap_cons, List.flatMap_nil, encJ_eq, AV.cells]
  simp [aBuildSlice, se22, sz25, ag25, ze25, AV.cells, zrep, List.range_succ, fillA, splice, litOk, AV.scal, la, la', lb, lb', lc, lc', AV.leaf]
  unfold AV.leaf at la la' lb lb' lc lc'
  simp [la, la', lb, lb', lc, lc']

theorem cloneJ_ok (l : List JV) (hne : 0 < l.length) (hl : l.length ≤ 1000000) (full : Bool) (prot : Nat) (H : Heap) :
    aLim cfg prot 20 [.vs (l.map encJ) full] H = some (.bs ⟨(H ++ [Blk.cells 0 []]).length, 0, 0, l.length, 0, 6, true, false⟩, some (H ++ [Blk.cells 0 []] ++ [Blk.cells 0 (cellsOf encJ l)])) := by
  have happ := app_ex0 (prot := prot) (H := H ++ [Blk.cells 0 []]) rowJ hxtJ encJ_T (m := l) (x := .vs (l.map encJ) full) (b := H.length) (ver := 0) (by rw [hget_new rfl]; rfl) (elem_vs encJ_T l full) hne (by simp [roomy]; omega)
  have hl0 := litJ0 H
  refine raw_slim rfl (by kernel_rfl) (by kernel_rfl) (by kernel_rfl) Tryd.func20 s20 (by simp [Tryd.f20]) fun fr hlen h => ?_
  simp only [Has, Nat.zero_add] at h
  obtain ⟨a0, -⟩ := h
  simp only [Tryd.f20] at hlen ⊢
  unfold g20
  simp only [wk, aBuiltin, AV.cells, AV.leaf, Nat.reduceEqDiff, Nat.reduceLT, Nat.reduceAdd, Nat.reduceLeDiff, reduceCtorEq, Nat.reduceMul, Nat.reduceMod, cfgP, u8, hlen, a0, hl0, happ]
  exact Fin_raw (l := [_]) (by simp [wk, aBuiltin, AV.cells, AV.leaf, Nat.reduceEqDiff, Nat.reduceLT, Nat.reduceAdd, Nat.reduceLeDiff, reduceCtorEq, Nat.reduceMul, Nat.reduceMod, cfgP, u8, hlen, aResults, aResult])
/-- a list of values. -/
def listJ (l : List JV) : JV := .mk 4 false 0 [] 0 l 0 []

theorem ofListT_ok (l : List JV) (hne : 0 < l.length) (hl : l.length ≤ 1000000) (full : Bool) (prot : Nat) (H : Heap) (hp : prot ≤ H.length) :
    aLim cfg prot 7 [.vs (l.map encJ) full] H = some (encJ (listJ l), none) := by
  have hsnap : snap H [.vs (l.map encJ) full] = some ([.vs (l.map encJ) full], false) := rfl
  have n1 := cloneJ_ok l hne hl full H.length (H ++ [Blk.cells 0 [AV.int IntKind.i64 0, AV.bool false, AV.int IntKind.i64 0, AV.str [], AV.nilS, AV.nilS]])
  have hput1 : ∀ (A : List AV) (B C : Blk) (x : AV), A.length = 6 → x.leaf = true → hput H.length (H ++ [Blk.cells 0 A] ++ [B] ++ [C]) H.length 0 0 [.int .i64 4, .bool false, .int .i64 0, .str [], x, .nilS] = some (H ++ [Blk.cells 0 [.int .i64 4, .bool false, .int .i64 0, .str [], x, .nilS]] ++ [B] ++ [C]) := by
    intro A B C x hA hx
    unfold AV.leaf at hx
    rw [hput_eq (cs := A) (by simp [hget]) (Nat.le_refl _) (by simp [hA]) (by simp [AV.leaf, hx])]
    simp [splice, hA]
  have hput1 := hput1 [.int .i64 0, .bool false, .int .i64 0, .str [], .nilS, .nilS] (Blk.cells 0 []) (Blk.cells 0 (cellsOf encJ l)) (.bs ⟨H.length + 1 + 1, 0, 0, l.length, 0, 6, true, false⟩) rfl rfl
  have hg1 : ∀ (A : List AV) (B C : Blk), hget (H ++ [Blk.cells 0 A] ++ [B] ++ [C]) H.length 0 = some A := fun A B C => by simp [hget]
  refine pure_slim rfl (by kernel_rfl) Tryd.func7 s7 hp hsnap (by simp [Tryd.f7]) fun fr hlen h => ?_
  simp only [Has, Nat.zero_add] at h
  obtain ⟨a0, -⟩ := h
  simp only [Tryd.f7] at hlen ⊢
  unfold g7
  simp only [wk, aBuiltin, AV.cells, AV.leaf, Nat.reduceEqDiff, Nat.reduceLT, Nat.reduceAdd, Nat.reduceLeDiff, reduceCtorEq, Nat.reduceMul, Nat.reduceMod, cfgP, u8, hlen, a0, n1, hput1, hg1, List.length_append]
  refine Fin_pure (l := [.agg [.int .i64 4, .bool false, .int .i64 0, .str [], .bs ⟨H.length + 1 + 1, 0, 0, l.length, 0, 6, true, false⟩, .nilS]]) (by simp [wk, aBuiltin, AV.cells, AV.leaf, Nat.reduceEqDiff, Nat.reduceLT, Nat.reduceAdd, Nat.reduceLeDiff, reduceCtorEq, Nat.reduceMul, Nat.reduceMod, cfgP, u8, hlen, aResults, aResult, hg1]) ?_ (by simp)
  rw [encJ_eq]
  refine .agg (.cons (.still rfl) (.cons (.still rfl) (.cons (.still rfl) (.cons (.still rfl) (.cons ?_ (.cons (.still rfl) .nil))))))
  show Frz _ _ _ (tg 0 (l.map encJ))
  rw [← slv_tg]
  refine Row.frozen (sz := 6) (ag := true) (.inr ⟨H.length + 1 + 1, 0, rfl, by omega, ?_, rfl⟩) encJ_T (by decide) rfl (.inr (by intro h; rw [h] at hne; simp at hne))
  rw [hget_new (by simp), if_pos rfl]
theorem ofList_ok (l : List JV) (hne : 0 < l.length) (hl : l.length ≤ 1000000) (b prot : Nat) (H : Heap) (hp : prot ≤ b) (hpl : prot ≤ H.length) (hg : hget H b 0 = some (cellsOf encJ l)) :
    aLim cfg prot 7 [.bs ⟨b, 0, 0, l.length, l.length, 6, true, true⟩] H = some (encJ (listJ l), some (H.set b .dead)) := by
  have hw : win (cellsOf encJ l) 0 (l.length * 6) = some (cellsOf encJ l) := by
    have := cellsOf_length encJ_T l
    simp only [win, Nat.zero_add, List.drop_zero]
    rw [if_pos (by omega), List.take_of_length_le (by omega)]
  have hpc : AV.plL (cellsOf encJ l) = true := by
    refine plL_of fun j hj => ?_
    have := List.getElem_mem hj
    obtain ⟨x, hx, hc⟩ := List.mem_flatMap.1 this
    obtain ⟨k, hk, he⟩ := List.getElem_of_mem hc
    rw [← he]
    exact plL_get (pl_cells (encJ_pl x)) k hk
  have hck : chunk 6 true l.length (cellsOf encJ l) = l.map encJ := chunk_cellsOf encJ_T (by decide) l
  refine lim_eat (args' := [.vs (l.map encJ) false]) (by kernel_rfl) (by kernel_rfl) Tryd.func7 (by kernel_rfl) ?_ ?_ rfl rfl (by simp) (ofListT_ok l hne hl false prot H hpl) (ofListT_ok l hne hl false prot _ (by simpa using hpl)) (by rw [encJ_eq]; simp only [flat, flat1, List.all_cons, flat0, Bool.true_and, JV.iv, listJ, JV.tag, JV.items]; cases l with | nil => simp at hne | cons x r => simp [tg, flat0])
  · simp only [snap, hg, hw, hpc, Option.bind_some, if_true, Option.map_some, hck]
    rfl
  · simp only [killA, hp, if_true]
end Go.Proofs.YtimbhlbkidmplaaDoor
/- jval's parser: step, takes, amiss, place, walked. -/
namespace Go.Proofs.YtimbhlbkidmplaaDoor
open Go Go.Abs AbsSeat Ty

theorem u21 : type_of% (And.intro ag3 (And.intro sz3 (And.intro by3 (And.intro ze3 (And.intro Tryd.underlying3 (And.intro ag9 (And.intro sz9 (And.intro by9 (And.intro ze9 (And.intro Tryd.underlying9 (And.intro ag33 (And.intro sz33 (And.intro by33 (And.intro ze33 (And.intro Tryd.underlying33 (And.intro ag47 (And.intro sz47 (And.intro by47 (And.intro ze47 (And.intro Tryd.underlying47 (And.intro ag49 (And.intro sz49 (And.intro by49 (And.intro ze49 (And.intro bu49 (And.intro Tryd.underlying49 (And.intro ag51 (And.intro sz51 (And.intro by51 (And.intro ze51 (And.intro bu51 (And.intro Tryd.underlying51 (And.intro ag71 (And.intro sz71 (And.intro by71 (And.intro se71 (And.intro ze71 (And.intro Tryd.underlying71 (And.intro fa49_0 (And.intro fd49_0 (And.intro fa49_1 (And.intro fd49_1 (And.intro fa49_2 (And.intro fd49_2 (And.intro fa51_0 (And.intro fd51_0 (And.intro fa51_1 (And.intro fd51_1 (And.intro fa51_2 (And.intro fd51_2 (And.intro fa51_3 fd51_3))))))))))))))))))))))))))))))))))))))))))))))))))) := And.intro ag3 (And.intro sz3 (And.intro by3 (And.intro ze3 (And.intro Tryd.underlying3 (And.intro ag9 (And.intro sz9 (And.intro by9 (And.intro ze9 (And.intro Tryd.underlying9 (And.intro ag33 (And.intro sz33 (And.intro by33 (And.intro ze33 (And.intro Tryd.underlying33 (And.intro ag47 (And.intro sz47 (And.intro by47 (And.intro ze47 (And.intro Tryd.underlying47 (And.intro ag49 (And.intro sz49 (And.intro by49 (And.intro ze49 (And.intro bu49 (And.intro Tryd.underlying49 (And.intro ag51 (And.intro sz51 (And.intro by51 (And.intro ze51 (And.intro bu51 (And.intro Tryd.underlying51 (And.intro ag71 (And.intro sz71 (And.intro by71 (And.intro se71 (And.intro ze71 (And.intro Tryd.underlying71 (And.intro fa49_0 (And.intro fd49_0 (And.intro fa49_1 (And.intro fd49_1 (And.intro fa49_2 (And.intro fd49_2 (And.intro fa51_0 (And.intro fd51_0 (And.intro fa51_1 (And.intro fd51_1 (And.intro fa51_2 (And.intro fd51_2 (And.intro fa51_3 fd51_3))))))))))))))))))))))))))))))))))))))))))))))))))
def g21 : Code :=
  .seq (.region 0 #[q 2 (.move (.tmp 0)) 47, q 3 (.move (.tmp 0)) 47, q 4 (.nilCheck (.tmp 3)) 0, q 5 (.fieldAddr 51 (.tmp 4) 1) 0, q 6 (.fieldAddr 49 (.tmp 5) 2) 0, q 7 (.load 3 (.tmp 6)) 3, q 8 (.nilCheck (.tmp 2)) 0, q 9 (.fieldAddr 51 (.tmp 8) 3) 0, qn (.store 3 (.tmp 9) (.tmp 7)) 0] false) (.seq (.region 1 #[q 11 (.move (.tmp 0)) 47, q 12 (.move (.tmp 0)) 47, q 13 (.move (.tmp 0)) 47, q 14 (.nilCheck (.tmp 13)) 0, q 15 (.fieldAddr 51 (.tmp 14) 0) 0, q 16 (.load 9 (.tmp 15)) 9, q 17 (.move (.tmp 0)) 47, q 18 (.nilCheck (.tmp 17)) 0, q 19 (.fieldAddr 51 (.tmp 18) 3) 0, q 20 (.load 3 (.tmp 19)) 3, q 21 (cl 27 #[.tmp 16, .tmp 20] #[9, 3]) 58, q 10 (.move (.tmp 21)) 58, q 22 (.extract (.tmp 10) 0) 49, q 23 (.extract (.tmp 10) 1) 33, q 24 (.nilCheck (.tmp 11)) 0, q 25 (.fieldAddr 51 (.tmp 24) 1) 0, qn (.store 49 (.tmp 25) (.tmp 22)) 0, q 26 (.nilCheck (.tmp 12)) 0, q 27 (.fieldAddr 51 (.tmp 26) 2) 0, qn (.store 33 (.tmp 27) (.tmp 23)) 0] false) (.seq (.region 2 #[q 28 (.move (.tmp 0)) 47, q 29 (.nilCheck (.tmp 28)) 0, q 30 (.fieldAddr 51 (.tmp 29) 2) 0, q 31 (.load 33 (.tmp 30)) 33, q 32 (.binOp .neq 33 (.tmp 31) (ik 0) 33) 4] false) (.cond (.tmp 32) (.region 3 #[q 33 (.move (.tmp 0)) 47, q 34 (.move (.tmp 0)) 47, q 35 (.nilCheck (.tmp 34)) 0, q 36 (.fieldAddr 51 (.tmp 35) 3) 0, q 37 (.load 3 (.tmp 36)) 3, q 38 (.build 49 #[(2, .tmp 37)]) 49, q 39 (.nilCheck (.tmp 33)) 0, q 40 (.fieldAddr 51 (.tmp 39) 1) 0, qn (.store 49 (.tmp 40) (.tmp 38)) 0] false) .skip)))
theorem s21 : Tryd.f21.body.map (slim cfg) = some g21 := by kernel_rfl
def g30 : Code :=
  .seq (.region 0 #[q 4 (.assign (.const (.bool false))) 4] false) (.seq (.seq (.region 1 #[q 5 (.move (.tmp 0)) 47, q 6 (.nilCheck (.tmp 5)) 0, q 7 (.fieldAddr 51 (.tmp 6) 2) 0, q 8 (.load 33 (.tmp 7)) 33, q 9 (.binOp .neq 33 (.tmp 8) (ik 0) 33) 4, q 10 (.move (.tmp 9)) 4, qg 11 (.move (.tmp 0)) 47 5 false, qg 12 (.nilCheck (.tmp 11)) 0 5 false, qg 13 (.fieldAddr 51 (.tmp 12) 1) 0 5 false, qg 14 (.fieldAddr 49 (.tmp 13) 0) 0 5 false, qg 15 (.load 3 (.tmp 14)) 3 5 false, qg 16 (.move (.tmp 1)) 3 5 false, qg 17 (.binOp .neq 3 (.tmp 15) (.tmp 16) 3) 4 5 false, q 18 (.pick (.tmp 10) (.const (.bool true)) (.tmp 17)) 4] false) (.cond (.tmp 18) (.seq (.region 2 #[q 4 (.assign (.const (.bool false))) 4] false) .ret) .skip)) (.seq (.region 3 #[q 19 (.move (.tmp 0)) 47, q 20 (cl 21 #[.tmp 19] #[47]) 0] false) (.seq (.region 4 #[q 4 (.assign (.const (.bool true))) 4] false) .ret)))
theorem s30 : Tryd.f30.body.map (slim cfg) = some g30 := by kernel_rfl
def g24 : Code :=
  .seq (.region 0 #[q 2 (.assign (ik 0)) 33] false) (.seq (.seq (.region 1 #[q 3 (.move (.tmp 0)) 47, q 4 (.nilCheck (.tmp 3)) 0, q 5 (.fieldAddr 51 (.tmp 4) 2) 0, q 6 (.load 33 (.tmp 5)) 33] false) (.block 0 (.seq (.seq (.region 2 #[q 8 (.binOp .eql 33 (.tmp 6) (ik 0) 33) 4, q 7 (.assign (.tmp 8)) 4] false) (.cond (.tmp 7) .skip (.region 3 #[q 9 (.binOp .eql 33 (.tmp 6) (ik 6) 33) 4, q 7 (.assign (.tmp 9)) 4] false))) (.cond (.tmp 7) (.seq (.region 4 #[q 2 (.assign (ik 3)) 33] false) .ret) .skip)))) (.seq (.region 5 #[q 10 (.move (.tmp 0)) 47, q 11 (.nilCheck (.tmp 10)) 0, q 12 (.fieldAddr 51 (.tmp 11) 2) 0, q 13 (.load 33 (.tmp 12)) 33, q 2 (.assign (.tmp 13)) 33] false) .ret))
theorem s24 : Tryd.f24.body.map (slim cfg) = some g24 := by kernel_rfl
def g23 : Code :=
  .seq (.region 0 #[q 2 (.assign (ik 0)) 3] false) (.seq (.seq (.region 1 #[q 6 (.move (.tmp 0)) 47, q 7 (.nilCheck (.tmp 6)) 0, q 8 (.fieldAddr 51 (.tmp 7) 2) 0, q 9 (.load 33 (.tmp 8)) 33, q 10 (.binOp .eql 33 (.tmp 9) (ik 0) 33) 4] false) (.cond (.tmp 10) (.seq (.region 2 #[q 11 (.move (.tmp 0)) 47, q 12 (.nilCheck (.tmp 11)) 0, q 13 (.fieldAddr 51 (.tmp 12) 1) 0, q 14 (.fieldAddr 49 (.tmp 13) 1) 0, q 15 (.load 3 (.tmp 14)) 3, q 2 (.assign (.tmp 15)) 3] false) .ret) .skip)) (.seq (.region 3 #[q 17 (.move (.tmp 0)) 47, q 18 (.nilCheck (.tmp 17)) 0, q 19 (.fieldAddr 51 (.tmp 18) 0) 0, q 20 (.load 9 (.tmp 19)) 9, q 21 (.move (.tmp 0)) 47, q 22 (.nilCheck (.tmp 21)) 0, q 23 (.fieldAddr 51 (.tmp 22) 3) 0, q 24 (.load 3 (.tmp 23)) 3, q 25 (.slice 9 (.tmp 20) (some (.tmp 24)) none none) 9, q 26 (cl 33 #[.tmp 25] #[9]) 72, q 16 (.move (.tmp 26)) 72, q 27 (.extract (.tmp 16) 0) 71, q 28 (.extract (.tmp 16) 1) 3, q 29 (.extract (.tmp 16) 2) 33, q 3 (.assign (.tmp 27)) 71, q 4 (.assign (.tmp 28)) 3, q 5 (.assign (.tmp 29)) 33] false) (.seq (.seq (.region 4 #[q 30 (.move (.tmp 3)) 71, q 31 (bi .len #[.tmp 30] #[71]) 3, q 32 (.binOp .gtr 3 (.tmp 31) (ik 0) 3) 4] false) (.cond (.tmp 32) (.seq (.region 5 #[q 33 (.move (.tmp 0)) 47, q 34 (.nilCheck (.tmp 33)) 0, q 35 (.fieldAddr 51 (.tmp 34) 3) 0, q 36 (.load 3 (.tmp 35)) 3, q 2 (.assign (.tmp 36)) 3] false) .ret) .skip)) (.seq (.region 6 #[q 37 (.move (.tmp 0)) 47, q 38 (.nilCheck (.tmp 37)) 0, q 39 (.fieldAddr 51 (.tmp 38) 3) 0, q 40 (.load 3 (.tmp 39)) 3, q 41 (.move (.tmp 4)) 3, q 42 (.binOp .add 3 (.tmp 40) (.tmp 41) 3) 3, q 2 (.assign (.tmp 42)) 3] false) .ret))))
theorem s23 : Tryd.f23.body.map (slim cfg) = some g23 := by kernel_rfl
/-- a parser over a text: what is next (its kind, where it begins and ends, what it has), why there is none, the place behind what was read. -/
structure Ps where
  kind : Int
  frm : Nat
  to : Nat
  text : List UInt8
  n : Int
  e : Int
  at_ : Nat
def cellsPs (s : List UInt8) (p : Ps) (d : Int) : List AV := [.str s, .int .i64 p.kind, .int .i64 p.frm, .int .i64 p.to, .str p.text, .int .i64 p.n, .int .i64 p.e, .int .i64 p.at_, .int .i64 d]
def stepP (s : List UInt8) (p : Ps) : Ps :=
  match tokS ((s.drop p.to).drop (runS blankC (s.drop p.to))) with
  | .bad e => ⟨0, 0, p.to, [], 0, e, p.to⟩
  | .tok t => ⟨t.kind, p.to + runS blankC (s.drop p.to), p.to + runS blankC (s.drop p.to) + t.len, t.text, t.n, 0, p.to⟩
theorem ne_glob {K : Heap} {b : Nat} {x y : List AV} (h0 : hget K 0 (gver 0) = some x) (hb : hget K b 0 = some y) : b ≠ 0 := by
  rintro rfl
  have e1 := alive_of_hget h0
  have e2 := alive_of_hget hb
  rw [e1] at e2
  injection (Option.some.inj e2) with e3 _
  simp [gver] at e3

theorem step_ok (s : List UInt8) (hl : s.length < 1000000000) (p : Ps) (d : Int) (hto : p.to ≤ s.length) (b prot : Nat) (K : Heap) (hg : hget K b 0 = some (cellsPs s p d)) (hg0 : hget K 0 (gver 0) = some [ET]) (hp : prot ≤ b) :
    aLim cfg prot 21 [.ptr b 0 0] K = some (.tup [], some (K.set b (.cells 0 (cellsPs s (stepP s p) d)))) := by
  have hb0 := ne_glob hg0 hg
  have hlt := hget_lt hg
  have fg : ∀ A, hget (K.set b (.cells 0 A)) b 0 = some A := fun A => hget_set_at hlt
  have fp : ∀ (A : List AV) (off : Nat) (xs : List AV), off + xs.length ≤ A.length → xs.all AV.leaf = true → hput prot (K.set b (.cells 0 A)) b 0 off xs = some (K.set b (.cells 0 (splice A off xs))) := fun A off xs h1 h2 => hput_set hlt hp h1 h2
  have nx := fun A => next_tok s (by omega) p.to hto prot (K.set b (.cells 0 A)) (by rw [hget_set_ne (Ne.symm hb0)]; exact hg0) (by simp; omega)
  have fp0 := hput_eq (xs := [.int .i64 p.to]) (off := 7) hg hp (by simp [cellsPs]) rfl
  unfold stepP
  unfold nextV at nx
  cases htk : tokS ((s.drop p.to).drop (runS blankC (s.drop p.to))) with
  | bad e =>
    rw [htk] at nx
    dsimp only at nx ⊢
    have he := tokS_ne htk
    have d2 : decide (¬ e = 0) = true := decide_eq_true he
    simp only [cellsPs, tk0, tkC] at hg nx fp0 ⊢
    refine raw_slim rfl (by kernel_rfl) (by kernel_rfl) (by kernel_rfl) Tryd.func21 s21 (by simp [Tryd.f21]) fun fr hlen h => ?_
    simp only [Has, Nat.zero_add] at h
    obtain ⟨a0, -⟩ := h
    simp only [Tryd.f21] at hlen ⊢
    unfold g21
    simp only [wk, aBuiltin, AV.cells, AV.leaf, Nat.reduceEqDiff, Nat.reduceLT, Nat.reduceAdd, Nat.reduceLeDiff, reduceCtorEq, Nat.reduceMul, Nat.reduceMod, cfgP, u21, hlen, a0, hg, fp0, fp, fg, nx, d2]
    exact Fin_raw (l := []) (by simp [wk, aBuiltin, AV.cells, AV.leaf, Nat.reduceEqDiff, Nat.reduceLT, Nat.reduceAdd, Nat.reduceLeDiff, reduceCtorEq, Nat.reduceMul, Nat.reduceMod, cfgP, u21, hlen, aResults, aResult])
  | tok t =>
    rw [htk] at nx
    dsimp only at nx ⊢
    have d2 : decide (¬ (0 : Int) = 0) = false := by decide
    simp only [cellsPs, tkAt, tkC] at hg nx fp0 ⊢
    refine raw_slim rfl (by kernel_rfl) (by kernel_rfl) (by kernel_rfl) Tryd.func21 s21 (by simp [Tryd.f21]) fun fr hlen h => ?_
    simp only [Has, Nat.zero_add] at h
    obtain ⟨a0, -⟩ := h
    simp only [Tryd.f21] at hlen ⊢
    unfold g21
    simp only [wk, aBuiltin, AV.cells, AV.leaf, Nat.reduceEqDiff, Nat.reduceLT, Nat.reduceAdd, Nat.reduceLeDiff, reduceCtorEq, Nat.reduceMul, Nat.reduceMod, cfgP, u21, hlen, a0, hg, fp0, fp, fg, nx, d2]
    exact Fin_raw (l := []) (by simp [wk, aBuiltin, AV.cells, AV.leaf, Nat.reduceEqDiff, Nat.reduceLT, Nat.reduceAdd, Nat.reduceLeDiff, reduceCtorEq, Nat.reduceMul, Nat.reduceMod, cfgP, u21, hlen, aResults, aResult])
def takesP (s : List UInt8) (p : Ps) (k : Int) : Bool × Ps := if p.e = 0 ∧ p.kind = k then (true, stepP s p) else (false, p)

theorem takes_ok (s : List UInt8) (hl : s.length < 1000000000) (p : Ps) (d : Int) (k : Int) (hto : p.to ≤ s.length) (b prot : Nat) (K : Heap) (hg : hget K b 0 = some (cellsPs s p d)) (hg0 : hget K 0 (gver 0) = some [ET]) (hp : prot ≤ b) :
    aLim cfg prot 30 [.ptr b 0 0, .int .i64 k] K = some (.bool (takesP s p k).1, some (K.set b (.cells 0 (cellsPs s (takesP s p k).2 d)))) := by
  have n1 := step_ok s hl p d hto b prot K hg hg0 hp
  unfold takesP
  by_cases he : p.e = 0
  · have d1 : decide (¬ p.e = 0) = false := by simp [he]
    by_cases hk : p.kind = k
    · have d2 : decide (¬ p.kind = k) = false := by simp [hk]
      rw [if_pos ⟨he, hk⟩]
      generalize hq : stepP s p = q at *
      simp only [cellsPs] at hg n1 ⊢
      refine raw_slim rfl (by kernel_rfl) (by kernel_rfl) (by kernel_rfl) Tryd.func30 s30 (by simp [Tryd.f30]) fun fr hlen h => ?_
      simp only [Has, Nat.zero_add] at h
      obtain ⟨a0, a1, -⟩ := h
      simp only [Tryd.f30] at hlen ⊢
      unfold g30
      simp only [wk, aBuiltin, AV.cells, AV.leaf, Nat.reduceEqDiff, Nat.reduceLT, Nat.reduceAdd, Nat.reduceLeDiff, reduceCtorEq, Nat.reduceMul, Nat.reduceMod, cfgP, u21, hlen, a0, a1, hg, n1, d1, d2, none_beq]
      exact Fin_raw (l := [.bool true]) (by simp [wk, aBuiltin, AV.cells, AV.leaf, Nat.reduceEqDiff, Nat.reduceLT, Nat.reduceAdd, Nat.reduceLeDiff, reduceCtorEq, Nat.reduceMul, Nat.reduceMod, cfgP, u21, hlen, aResults, aResult])
    · have d2 : decide (¬ p.kind = k) = true := decide_eq_true hk
      rw [if_neg (fun h => hk h.2)]
      dsimp only
      rw [set_self hg]
      simp only [cellsPs] at hg n1 ⊢
      refine raw_slim rfl (by kernel_rfl) (by kernel_rfl) (by kernel_rfl) Tryd.func30 s30 (by simp [Tryd.f30]) fun fr hlen h => ?_
      simp only [Has, Nat.zero_add] at h
      obtain ⟨a0, a1, -⟩ := h
      simp only [Tryd.f30] at hlen ⊢
      unfold g30
      simp only [wk, aBuiltin, AV.cells, AV.leaf, Nat.reduceEqDiff, Nat.reduceLT, Nat.reduceAdd, Nat.reduceLeDiff, reduceCtorEq, Nat.reduceMul, Nat.reduceMod, cfgP, u21, hlen, a0, a1, hg, d1, d2, none_beq]
      exact Fin_raw (l := [.bool false]) (by simp [wk, aBuiltin, AV.cells, AV.leaf, Nat.reduceEqDiff, Nat.reduceLT, Nat.reduceAdd, Nat.reduceLeDiff, reduceCtorEq, Nat.reduceMul, Nat.reduceMod, cfgP, u21, hlen, aResults, aResult])
  · have d1 : decide (¬ p.e = 0) = true := decide_eq_true he
    rw [if_neg (fun h => he h.1)]
    dsimp only
    rw [set_self hg]
    simp only [cellsPs] at hg n1 ⊢
    refine raw_slim rfl (by kernel_rfl) (by kernel_rfl) (by kernel_rfl) Tryd.func30 s30 (by simp [Tryd.f30]) fun fr hlen h => ?_
    simp only [Has, Nat.zero_add] at h
    obtain ⟨a0, a1, -⟩ := h
    simp only [Tryd.f30] at hlen ⊢
    unfold g30
    simp only [wk, aBuiltin, AV.cells, AV.leaf, Nat.reduceEqDiff, Nat.reduceLT, Nat.reduceAdd, Nat.reduceLeDiff, reduceCtorEq, Nat.reduceMul, Nat.reduceMod, cfgP, u21, hlen, a0, a1, hg, d1, none_beq]
    exact Fin_raw (l := [.bool false]) (by simp [wk, aBuiltin, AV.cells, AV.leaf, Nat.reduceEqDiff, Nat.reduceLT, Nat.reduceAdd, Nat.reduceLeDiff, reduceCtorEq, Nat.reduceMul, Nat.reduceMod, cfgP, u21, hlen, aResults, aResult])
def amissP (p : Ps) : Int := if p.e = 0 ∨ p.e = 6 then 3 else p.e

theorem amiss_ok (s : List UInt8) (p : Ps) (d : Int) (b prot : Nat) (K : Heap) (hg : hget K b 0 = some (cellsPs s p d)) (hp : prot ≤ K.length) :
    aLim cfg prot 24 [.ptr b 0 0] K = some (.int .i64 (amissP p), none) := by
  have hsnap : snap K [.ptr b 0 0] = some ([.ptr b 0 0], false) := rfl
  simp only [cellsPs] at hg
  unfold amissP
  refine pure_slim rfl (by kernel_rfl) Tryd.func24 s24 hp hsnap (by simp [Tryd.f24]) fun fr hlen h => ?_
  simp only [Has, Nat.zero_add] at h
  obtain ⟨a0, -⟩ := h
  simp only [Tryd.f24] at hlen ⊢
  unfold g24
  by_cases h1 : p.e = 0
  · have d1 : decide (p.e = 0) = true := decide_eq_true h1
    rw [if_pos (.inl h1)]
    simp only [wk, aBuiltin, AV.cells, AV.leaf, Nat.reduceEqDiff, Nat.reduceLT, Nat.reduceAdd, Nat.reduceLeDiff, reduceCtorEq, Nat.reduceMul, Nat.reduceMod, cfgP, u21, hlen, a0, hg, d1]
    exact Fin_pure (l := [.int .i64 3]) (by simp [wk, aBuiltin, AV.cells, AV.leaf, Nat.reduceEqDiff, Nat.reduceLT, Nat.reduceAdd, Nat.reduceLeDiff, reduceCtorEq, Nat.reduceMul, Nat.reduceMod, cfgP, u21, hlen, aResults, aResult]) (.still rfl) (by simp)
  · have d1 : decide (p.e = 0) = false := decide_eq_false h1
    by_cases h2 : p.e = 6
    · have d2 : decide (p.e = 6) = true := decide_eq_true h2
      rw [if_pos (.inr h2)]
      simp only [wk, aBuiltin, AV.cells, AV.leaf, Nat.reduceEqDiff, Nat.reduceLT, Nat.reduceAdd, Nat.reduceLeDiff, reduceCtorEq, Nat.reduceMul, Nat.reduceMod, cfgP, u21, hlen, a0, hg, d1, d2]
      exact Fin_pure (l := [.int .i64 3]) (by simp [wk, aBuiltin, AV.cells, AV.leaf, Nat.reduceEqDiff, Nat.reduceLT, Nat.reduceAdd, Nat.reduceLeDiff, reduceCtorEq, Nat.reduceMul, Nat.reduceMod, cfgP, u21, hlen, aResults, aResult]) (.still rfl) (by simp)
    · have d2 : decide (p.e = 6) = false := decide_eq_false h2
      rw [if_neg (fun h => h.elim h1 h2)]
      simp only [wk, aBuiltin, AV.cells, AV.leaf, Nat.reduceEqDiff, Nat.reduceLT, Nat.reduceAdd, Nat.reduceLeDiff, reduceCtorEq, Nat.reduceMul, Nat.reduceMod, cfgP, u21, hlen, a0, hg, d1, d2]
      exact Fin_pure (l := [.int .i64 p.e]) (by simp [wk, aBuiltin, AV.cells, AV.leaf, Nat.reduceEqDiff, Nat.reduceLT, Nat.reduceAdd, Nat.reduceLeDiff, reduceCtorEq, Nat.reduceMul, Nat.reduceMod, cfgP, u21, hlen, aResults, aResult]) (.still rfl) (by simp)
def placeP (s : List UInt8) (p : Ps) : Nat := if p.e = 0 then p.frm else if (allS 0 (s.drop p.at_)).1 = [] then p.at_ + (allS 0 (s.drop p.at_)).2.1 else p.at_
theorem allS_le : ∀ (m k : Nat) (r : List UInt8), r.length ≤ m → (allS k r).2.1 ≤ k + r.length
  | m, k, r, hm => by
    cases h : tokS (r.drop (runS blankC r)) with
    | bad e =>
      have := runS_le blankC r
      rw [allS_bad h]
      dsimp only
      split <;> omega
    | tok t =>
      obtain ⟨p1, p2⟩ := tokS_pos h
      simp only [List.length_drop] at p2
      rw [allS_tok h]
      cases m with
      | zero => omega
      | succ m =>
        have := allS_le m (k + runS blankC r + t.len) (r.drop (runS blankC r + t.len)) (by simp; omega)
        simp only [List.length_drop] at this
        dsimp only
        omega

theorem place_ok (s : List UInt8) (hl : s.length < 1000000000) (p : Ps) (d : Int) (hat : p.at_ ≤ s.length) (b prot : Nat) (K : Heap) (hg : hget K b 0 = some (cellsPs s p d)) (hg0 : hget K 0 (gver 0) = some [ET]) (hp : prot ≤ K.length) :
    aLim cfg prot 23 [.ptr b 0 0] K = some (.int .i64 (placeP s p), none) := by
  have hsnap : snap K [.ptr b 0 0] = some ([.ptr b 0 0], false) := rfl
  simp only [cellsPs] at hg
  unfold placeP
  refine pure_slim rfl (by kernel_rfl) Tryd.func23 s23 hp hsnap (by simp [Tryd.f23]) fun fr hlen h => ?_
  simp only [Has, Nat.zero_add] at h
  obtain ⟨a0, -⟩ := h
  simp only [Tryd.f23] at hlen ⊢
  unfold g23
  by_cases h1 : p.e = 0
  · have d1 : decide (p.e = 0) = true := decide_eq_true h1
    rw [if_pos h1]
    simp only [wk, aBuiltin, AV.cells, AV.leaf, Nat.reduceEqDiff, Nat.reduceLT, Nat.reduceAdd, Nat.reduceLeDiff, reduceCtorEq, Nat.reduceMul, Nat.reduceMod, cfgP, u21, hlen, a0, hg, d1]
    exact Fin_pure (l := [.int .i64 p.frm]) (by simp [wk, aBuiltin, AV.cells, AV.leaf, Nat.reduceEqDiff, Nat.reduceLT, Nat.reduceAdd, Nat.reduceLeDiff, reduceCtorEq, Nat.reduceMul, Nat.reduceMod, cfgP, u21, hlen, aResults, aResult]) (.still rfl) (by simp)
  · have d1 : decide (p.e = 0) = false := decide_eq_false h1
    rw [if_neg h1]
    have e1 := str_from (k := .i64) Tryd.underlying9 s (a := p.at_) hat
    have na := all_ok (s.drop p.at_) (by simp; omega) K.length K hg0 (Nat.le_refl _)
    have hle := allS_le (s.drop p.at_).length 0 (s.drop p.at_) (Nat.le_refl _)
    simp only [List.length_drop] at hle
    generalize allS 0 (s.drop p.at_) = A at *
    obtain ⟨l, a, e⟩ := A
    dsimp only at na hle ⊢
    have hln : ∀ K', aLen Tryd.prog K' 71 (slv encTk l) = some (.int .i64 l.length) := fun K' => (slv_sl encTk l).len Tryd.underlying71
    have w1 : IntKind.i64.wrap ((p.at_ : Int) + a) = ((p.at_ + a : Nat) : Int) := by rw [wrap64 (by omega) (by omega)]; simp
    by_cases hn : l = []
    · have d2 : decide ((0 : Int) < (l.length : Nat)) = false := by rw [hn]; rfl
      rw [if_pos hn]
      simp only [wk, aBuiltin, AV.cells, AV.leaf, Nat.reduceEqDiff, Nat.reduceLT, Nat.reduceAdd, Nat.reduceLeDiff, reduceCtorEq, Nat.reduceMul, Nat.reduceMod, cfgP, u21, hlen, a0, hg, d1, e1, na, hln, d2, w1]
      exact Fin_pure (l := [.int .i64 (p.at_ + a : Nat)]) (by simp [wk, aBuiltin, AV.cells, AV.leaf, Nat.reduceEqDiff, Nat.reduceLT, Nat.reduceAdd, Nat.reduceLeDiff, reduceCtorEq, Nat.reduceMul, Nat.reduceMod, cfgP, u21, hlen, aResults, aResult]) (.still rfl) (by simp)
    · have d2 : decide ((0 : Int) < (l.length : Nat)) = true := decide_eq_true (by have := List.length_pos_iff.2 hn; omega)
      rw [if_neg hn]
      simp only [wk, aBuiltin, AV.cells, AV.leaf, Nat.reduceEqDiff, Nat.reduceLT, Nat.reduceAdd, Nat.reduceLeDiff, reduceCtorEq, Nat.reduceMul, Nat.reduceMod, cfgP, u21, hlen, a0, hg, d1, e1, na, hln, d2]
      exact Fin_pure (l := [.int .i64 p.at_]) (by simp [wk, aBuiltin, AV.cells, AV.leaf, Nat.reduceEqDiff, Nat.reduceLT, Nat.reduceAdd, Nat.reduceLeDiff, reduceCtorEq, Nat.reduceMul, Nat.reduceMod, cfgP, u21, hlen, aResults, aResult]) (.still rfl) (by simp)
end Go.Proofs.YtimbhlbkidmplaaDoor
/- jval's parser: plain, walked. -/
namespace Go.Proofs.YtimbhlbkidmplaaDoor
open Go Go.Abs AbsSeat Ty

theorem u28 : type_of% (And.intro (show tagT Tryd.prog 25 = 0 from by kernel_rfl) (And.intro (show tagT Tryd.prog 49 = 0 from by kernel_rfl) (And.intro ag2 (And.intro sz2 (And.intro by2 (And.intro ze2 (And.intro Tryd.underlying2 (And.intro ag3 (And.intro sz3 (And.intro by3 (And.intro ze3 (And.intro Tryd.underlying3 (And.intro ag4 (And.intro sz4 (And.intro by4 (And.intro ze4 (And.intro Tryd.underlying4 (And.intro ag9 (And.intro sz9 (And.intro by9 (And.intro ze9 (And.intro Tryd.underlying9 (And.intro ag25 (And.intro sz25 (And.intro by25 (And.intro ze25 (And.intro bu25 (And.intro Tryd.underlying25 (And.intro ag33 (And.intro sz33 (And.intro by33 (And.intro ze33 (And.intro Tryd.underlying33 (And.intro ag47 (And.intro sz47 (And.intro by47 (And.intro ze47 (And.intro Tryd.underlying47 (And.intro ag49 (And.intro sz49 (And.intro by49 (And.intro ze49 (And.intro bu49 (And.intro Tryd.underlying49 (And.intro ag51 (And.intro sz51 (And.intro by51 (And.intro ze51 (And.intro bu51 (And.intro Tryd.underlying51 (And.intro fa49_0 (And.intro fd49_0 (And.intro fa49_3 (And.intro fd49_3 (And.intro fa49_4 (And.intro fd49_4 (And.intro fa51_1 (And.intro fd51_1 (And.intro fa51_2 fd51_2))))))))))))))))))))))))))))))))))))))))))))))))))))))))))) := And.intro (show tagT Tryd.prog 25 = 0 from by kernel_rfl) (And.intro (show tagT Tryd.prog 49 = 0 from by kernel_rfl) (And.intro ag2 (And.intro sz2 (And.intro by2 (And.intro ze2 (And.intro Tryd.underlying2 (And.intro ag3 (And.intro sz3 (And.intro by3 (And.intro ze3 (And.intro Tryd.underlying3 (And.intro ag4 (And.intro sz4 (And.intro by4 (And.intro ze4 (And.intro Tryd.underlying4 (And.intro ag9 (And.intro sz9 (And.intro by9 (And.intro ze9 (And.intro Tryd.underlying9 (And.intro ag25 (And.intro sz25 (And.intro by25 (And.intro ze25 (And.intro bu25 (And.intro Tryd.underlying25 (And.intro ag33 (And.intro sz33 (And.intro by33 (And.intro ze33 (And.intro Tryd.underlying33 (And.intro ag47 (And.intro sz47 (And.intro by47 (And.intro ze47 (And.intro Tryd.underlying47 (And.intro ag49 (And.intro sz49 (And.intro by49 (And.intro ze49 (And.intro bu49 (And.intro Tryd.underlying49 (And.intro ag51 (And.intro sz51 (And.intro by51 (And.intro ze51 (And.intro bu51 (And.intro Tryd.underlying51 (And.intro fa49_0 (And.intro fd49_0 (And.intro fa49_3 (And.intro fd49_3 (And.intro fa49_4 (And.intro fd49_4 (And.intro fa51_1 (And.intro fd51_1 (And.intro fa51_2 fd51_2))))))))))))))))))))))))))))))))))))))))))))))))))))))))))
def g28 : Code :=
  .seq (.region 0 #[q 2 (.alloc 25) 0, q 3 (.assign (.const (.bool false))) 4] false) (.seq (.region 1 #[q 6 (.move (.tmp 0)) 47, q 7 (.nilCheck (.tmp 6)) 0, q 8 (.fieldAddr 51 (.tmp 7) 1) 0, q 9 (.load 49 (.tmp 8)) 49, q 4 (.alloc 49) 0, qn (.store 49 (.tmp 4) (.tmp 9)) 0] false) (.seq (.region 2 #[q 10 (.build 25 #[]) 25, q 5 (.alloc 25) 0, qn (.store 25 (.tmp 5) (.tmp 10)) 0] false) (.seq (.seq (.region 3 #[q 11 (.move (.tmp 0)) 47, q 12 (.nilCheck (.tmp 11)) 0, q 13 (.fieldAddr 51 (.tmp 12) 2) 0, q 14 (.load 33 (.tmp 13)) 33, q 15 (.binOp .neq 33 (.tmp 14) (ik 0) 33) 4] false) (.cond (.tmp 15) (.seq (.region 4 #[q 16 (.load 25 (.tmp 5)) 25, qn (.store 25 (.tmp 2) (.tmp 16)) 0, q 3 (.assign (.const (.bool false))) 4] false) .ret) .skip)) (.seq (.seq (.region 5 #[q 17 (.fieldAddr 49 (.tmp 4) 0) 0, q 18 (.load 3 (.tmp 17)) 3] false) (.block 0 (.seq (.region 7 #[q 21 (.binOp .eql 3 (.tmp 18) (ik 7) 3) 4, q 20 (.assign (.tmp 21)) 4] false) (.cond (.tmp 20) (.region 8 #[q 22 (.fieldAddr 49 (.tmp 4) 3) 0, q 23 (.load 9 (.tmp 22)) 9, q 24 (cl 8 #[.tmp 23] #[9]) 25, qn (.store 25 (.tmp 5) (.tmp 24)) 0] false) (.seq (.region 9 #[q 26 (.binOp .eql 3 (.tmp 18) (ik 8) 3) 4, q 25 (.assign (.tmp 26)) 4] false) (.cond (.tmp 25) (.region 10 #[q 27 (.fieldAddr 49 (.tmp 4) 4) 0, q 28 (.load 2 (.tmp 27)) 2, q 29 (cl 9 #[.tmp 28] #[2]) 25, qn (.store 25 (.tmp 5) (.tmp 29)) 0] false) (.seq (.seq (.region 11 #[q 31 (.binOp .eql 3 (.tmp 18) (ik 9) 3) 4, q 30 (.assign (.tmp 31)) 4] false) (.cond (.tmp 30) .skip (.region 12 #[q 32 (.binOp .eql 3 (.tmp 18) (ik 10) 3) 4, q 30 (.assign (.tmp 32)) 4] false))) (.cond (.tmp 30) (.region 13 #[q 33 (.fieldAddr 49 (.tmp 4) 0) 0, q 34 (.load 3 (.tmp 33)) 3, q 35 (.binOp .eql 3 (.tmp 34) (ik 9) 3) 4, q 36 (cl 10 #[.tmp 35] #[4]) 25, qn (.store 25 (.tmp 5) (.tmp 36)) 0] false) (.seq (.region 14 #[q 38 (.binOp .eql 3 (.tmp 18) (ik 11) 3) 4, q 37 (.assign (.tmp 38)) 4] false) (.cond (.tmp 37) .skip (.seq (.region 6 #[q 19 (.load 25 (.tmp 5)) 25, qn (.store 25 (.tmp 2) (.tmp 19)) 0, q 3 (.assign (.const (.bool false))) 4] false) .ret))))))))))) (.seq (.region 15 #[q 39 (.move (.tmp 0)) 47, q 40 (cl 21 #[.tmp 39] #[47]) 0] false) (.seq (.region 16 #[q 41 (.load 25 (.tmp 5)) 25, qn (.store 25 (.tmp 2) (.tmp 41)) 0, q 3 (.assign (.const (.bool true))) 4] false) .ret))))))
theorem s28 : Tryd.f28.body.map (slim cfg) = some g28 := by kernel_rfl
/-- a value that is one token. -/
def plainJ (p : Ps) : Option JV :=
  if p.e = 0 then
    if p.kind = 7 then some (.mk 3 false 0 p.text 0 [] 0 [])
    else if p.kind = 8 then some (.mk 2 false p.n [] 0 [] 0 [])
    else if p.kind = 9 then some (.mk 1 true 0 [] 0 [] 0 [])
    else if p.kind = 10 then some (.mk 1 false 0 [] 0 [] 0 [])
    else if p.kind = 11 then some (.mk 0 false 0 [] 0 [] 0 [])
    else none
  else none
def plainP (s : List UInt8) (p : Ps) : Ps := if (plainJ p).isSome then stepP s p else p
/-- a heap that has more, and one block of the old ones other. -/
structure Upd (K K' : Heap) (b : Nat) (cs : List AV) : Prop where
  len : K.length ≤ K'.length
  at_ : hget K' b 0 = some cs
  old : ∀ z, z < K.length → z ≠ b → K'[z]? = K[z]?
theorem Upd.get {K K' : Heap} {b : Nat} {cs : List AV} (h : Upd K K' b cs) {z v : Nat} {x : List AV} (hz : z ≠ b) (hg : hget K z v = some x) : hget K' z v = some x := by
  have := h.old z (hget_lt hg) hz
  unfold hget at hg ⊢
  rw [this]; exact hg
theorem enc0 (k : Int) (i : Bool) (n : Int) (t : List UInt8) : encJ (.mk k i n t 0 [] 0 []) = .agg [.int .i64 k, .bool i, .int .i64 n, .str t, .nilS, .nilS] := by
  simp [encJ_eq, JV.iv, JV.kv, tg, JV.kind, JV.is, JV.n, JV.text, JV.tag, JV.items, JV.ktag, JV.keys]
section
variable {M : Heap} {a b c : List AV}
theorem tri_get0 : hget (M ++ [.cells 0 a, .cells 0 b, .cells 0 c]) M.length 0 = some a := by rw [hget_new rfl, if_pos rfl]
theorem tri_get1 : hget (M ++ [.cells 0 a, .cells 0 b, .cells 0 c]) (M.length + 1) 0 = some b := by
  have := hget_new (H := M ++ [.cells 0 a]) (b := M.length + 1) (v := 0) (v' := 0) (cs := b) (l := [.cells 0 c]) (by simp)
  simpa using this
theorem tri_get2 : hget (M ++ [.cells 0 a, .cells 0 b, .cells 0 c]) (M.length + 2) 0 = some c := by
  have := hget_new (H := M ++ [.cells 0 a, .cells 0 b]) (b := M.length + 2) (v := 0) (v' := 0) (cs := c) (l := []) (by simp)
  simpa using this
theorem tri_put0 {prot off : Nat} {xs : List AV} (hp : prot ≤ M.length) (hl : off + xs.length ≤ a.length) (hx : xs.all AV.leaf = true) : hput prot (M ++ [.cells 0 a, .cells 0 b, .cells 0 c]) M.length 0 off xs = some (M ++ [.cells 0 (splice a off xs), .cells 0 b, .cells 0 c]) := by
  rw [hput_new rfl hp hl hx]
theorem tri_put2 {prot off : Nat} {xs : List AV} (hp : prot ≤ M.length) (hl : off + xs.length ≤ c.length) (hx : xs.all AV.leaf = true) : hput prot (M ++ [.cells 0 a, .cells 0 b, .cells 0 c]) (M.length + 2) 0 off xs = some (M ++ [.cells 0 a, .cells 0 b, .cells 0 (splice c off xs)]) := by
  have := hput_new (H := M ++ [.cells 0 a, .cells 0 b]) (prot := prot) (b := M.length + 2) (v := 0) (off := off) (xs := xs) (cs := c) (l := []) (by simp) (by simp; omega) hl hx
  simpa using this
end

theorem plain_ok (s : List UInt8) (hl : s.length < 1000000000) (p : Ps) (d : Int) (hto : p.to ≤ s.length) (b prot : Nat) (K : Heap) (hg : hget K b 0 = some (cellsPs s p d)) (hg0 : hget K 0 (gver 0) = some [ET]) (hp : prot ≤ b) :
    ∃ K', aLim cfg prot 28 [.ptr b 0 0] K = some (.tup [encJ ((plainJ p).getD (.mk 0 false 0 [] 0 [] 0 [])), .bool (plainJ p).isSome], some K') ∧ Upd K K' b (cellsPs s (plainP s p) d) := by
  have hlt := hget_lt hg
  have hpK : prot ≤ K.length := by omega
  have hl1 : ∀ a : Blk, (K ++ [a]).length = K.length + 1 := fun a => by simp
  have hl2 : ∀ a b : Blk, (K ++ [a, b]).length = K.length + 2 := fun a b => by simp
  have ha2 : ∀ a b : Blk, K ++ [a] ++ [b] = K ++ [a, b] := fun a b => by simp
  have ha3 : ∀ a b c : Blk, K ++ [a, b] ++ [c] = K ++ [a, b, c] := fun a b c => by simp
  have hgl : ∀ l, hget (K ++ l) b 0 = some (cellsPs s p d) := fun l => hget_mono hg l
  have hput2 : ∀ (a c : List AV) (off : Nat) (xs : List AV), prot ≤ K.length → off + xs.length ≤ c.length → xs.all AV.leaf = true → hput prot (K ++ [.cells 0 a, .cells 0 c]) (K.length + 1) 0 off xs = some (K ++ [.cells 0 a, .cells 0 (splice c off xs)]) := fun a c off xs h1 h2 h3 => by
    have := hput_new (H := K ++ [.cells 0 a]) (prot := prot) (b := K.length + 1) (v := 0) (off := off) (xs := xs) (cs := c) (l := []) (by simp) (by simp; omega) h2 h3
    simpa using this
  have st := fun a e c => step_ok s hl p d hto b prot (K ++ [.cells 0 a, .cells 0 e, .cells 0 c]) (hgl _) (hget_mono hg0 _) hp
  have hsa : ∀ (x : Blk) (l : List Blk), (K ++ l).set b x = K.set b x ++ l := fun x l => List.set_append_left _ _ hlt
  have tg0 : ∀ (x : Blk) (a e c : List AV), hget (K.set b x ++ [.cells 0 a, .cells 0 e, .cells 0 c]) K.length 0 = some a := fun x a e c => by rw [hget_new (by simp), if_pos rfl]
  have tg2 : ∀ (x : Blk) (a e c : List AV), hget (K.set b x ++ [.cells 0 a, .cells 0 e, .cells 0 c]) (K.length + 2) 0 = some c := fun x a e c => by
    have := tri_get2 (M := K.set b x) (a := a) (b := e) (c := c)
    simpa using this
  have tp0 : ∀ (x : Blk) (a e c xs : List AV) (off : Nat), off + xs.length ≤ a.length → xs.all AV.leaf = true → hput prot (K.set b x ++ [.cells 0 a, .cells 0 e, .cells 0 c]) K.length 0 off xs = some (K.set b x ++ [.cells 0 (splice a off xs), .cells 0 e, .cells 0 c]) := fun x a e c xs off h1 h2 => by
    have := tri_put0 (M := K.set b x) (prot := prot) (a := a) (b := e) (c := c) (off := off) (xs := xs) (by simpa using hpK) h1 h2
    simpa using this
  have fin : ∀ (X : List AV) (l : List Blk), Upd K (K.set b (.cells 0 X) ++ l) b X := fun X l => ⟨by simp, by rw [hget_old (by simpa using hlt)]; exact hget_set_at hlt, fun z hz hzb => by
    rw [List.getElem?_append_left (by simpa using hz), List.getElem?_set_ne (Ne.symm hzb)]⟩
  have fin0 : ∀ (l : List Blk), Upd K (K ++ l) b (cellsPs s p d) := fun l => ⟨by simp, hget_mono hg l, fun z hz _ => by rw [List.getElem?_append_left hz]⟩
  simp only [hsa] at st
  have nT := fun (M : Heap) (h : prot ≤ M.length) => ofText_ok p.text prot M h
  have nN := fun (M : Heap) (h : prot ≤ M.length) => ofNumber_ok p.n prot M h
  have nB := fun (i : Bool) (M : Heap) (h : prot ≤ M.length) => ofBool_ok i prot M h
  have hl3 : ∀ a b c : Blk, prot ≤ (K ++ [a, b, c]).length := fun a b c => by simp; omega
  simp only [enc0] at nT nN nB
  unfold plainP plainJ
  simp only [cellsPs] at hgl
  by_cases he : p.e = 0
  · have d0 : decide (¬ p.e = 0) = false := by simp [he]
    simp only [if_pos he]
    by_cases h7 : p.kind = 7
    · have d7 : decide (p.kind = 7) = true := decide_eq_true h7
      simp only [if_pos h7]
      dsimp only [Option.getD_some, Option.isSome_some]
      rw [if_pos rfl]
      refine ⟨_, ?_, fin _ [.cells 0 [.int .i64 3, .bool false, .int .i64 0, .str p.text, .nilS, .nilS], .cells 0 [.int .i64 p.kind, .int .i64 p.frm, .int .i64 p.to, .str p.text, .int .i64 p.n], .cells 0 [.int .i64 3, .bool false, .int .i64 0, .str p.text, .nilS, .nilS]]⟩
      rw [enc0]
      refine raw_slim rfl (by kernel_rfl) (by kernel_rfl) (by kernel_rfl) Tryd.func28 s28 (by simp [Tryd.f28]) fun fr hlen h => ?_
      simp only [Has, Nat.zero_add] at h
      obtain ⟨a0, -⟩ := h
      simp only [Tryd.f28] at hlen ⊢
      unfold g28
      simp only [wk, aBuiltin, AV.cells, AV.leaf, Nat.reduceEqDiff, Nat.reduceLT, Nat.reduceAdd, Nat.reduceLeDiff, reduceCtorEq, Nat.reduceMul, Nat.reduceMod, cfgP, u28, hlen, a0, hl1, hl2, ha2, ha3, hgl, hpK, hput2, tri_get0, tri_get1, tri_get2, tri_put0, tri_put2, d0, d7, st, tg0, tg2, tp0, nT, hl3]
      exact Fin_raw (l := [encJ (.mk 3 false 0 p.text 0 [] 0 []), .bool true]) (by simp [wk, aBuiltin, AV.cells, AV.leaf, Nat.reduceEqDiff, Nat.reduceLT, Nat.reduceAdd, Nat.reduceLeDiff, reduceCtorEq, Nat.reduceMul, Nat.reduceMod, cfgP, u28, hlen, aResults, aResult, tg0, enc0])
    · have d7 : decide (p.kind = 7) = false := decide_eq_false h7
      simp only [if_neg h7]
      by_cases h8 : p.kind = 8
      · have d8 : decide (p.kind = 8) = true := decide_eq_true h8
        simp only [if_pos h8]
        dsimp only [Option.getD_some, Option.isSome_some]
        rw [if_pos rfl]
        refine ⟨_, ?_, fin _ [.cells 0 [.int .i64 2, .bool false, .int .i64 p.n, .str [], .nilS, .nilS], .cells 0 [.int .i64 p.kind, .int .i64 p.frm, .int .i64 p.to, .str p.text, .int .i64 p.n], .cells 0 [.int .i64 2, .bool false, .int .i64 p.n, .str [], .nilS, .nilS]]⟩
        rw [enc0]
        refine raw_slim rfl (by kernel_rfl) (by kernel_rfl) (by kernel_rfl) Tryd.func28 s28 (by simp [Tryd.f28]) fun fr hlen h => ?_
        simp only [Has, Nat.zero_add] at h
        obtain ⟨a0, -⟩ := h
        simp only [Tryd.f28] at hlen ⊢
        unfold g28
        simp only [wk, aBuiltin, AV.cells, AV.leaf, Nat.reduceEqDiff, Nat.reduceLT, Nat.reduceAdd, Nat.reduceLeDiff, reduceCtorEq, Nat.reduceMul, Nat.reduceMod, cfgP, u28, hlen, a0, hl1, hl2, ha2, ha3, hgl, hpK, hput2, tri_get0, tri_get1, tri_get2, tri_put0, tri_put2, d0, d7, d8, st, tg0, tg2, tp0, nN, hl3]
        exact Fin_raw (l := [encJ (.mk 2 false p.n [] 0 [] 0 []), .bool true]) (by simp [wk, aBuiltin, AV.cells, AV.leaf, Nat.reduceEqDiff, Nat.reduceLT, Nat.reduceAdd, Nat.reduceLeDiff, reduceCtorEq, Nat.reduceMul, Nat.reduceMod, cfgP, u28, hlen, aResults, aResult, tg0, enc0])
      · have d8 : decide (p.kind = 8) = false := decide_eq_false h8
        simp only [if_neg h8]
        by_cases h9 : p.kind = 9
        · have d9 : decide (p.kind = 9) = true := decide_eq_true h9
          simp only [if_pos h9]
          dsimp only [Option.getD_some, Option.isSome_some]
          rw [if_pos rfl]
          refine ⟨_, ?_, fin _ [.cells 0 [.int .i64 1, .bool true, .int .i64 0, .str [], .nilS, .nilS], .cells 0 [.int .i64 p.kind, .int .i64 p.frm, .int .i64 p.to, .str p.text, .int .i64 p.n], .cells 0 [.int .i64 1, .bool true, .int .i64 0, .str [], .nilS, .nilS]]⟩
          rw [enc0]
          refine raw_slim rfl (by kernel_rfl) (by kernel_rfl) (by kernel_rfl) Tryd.func28 s28 (by simp [Tryd.f28]) fun fr hlen h => ?_
          simp only [Has, Nat.zero_add] at h
          obtain ⟨a0, -⟩ := h
          simp only [Tryd.f28] at hlen ⊢
          unfold g28
          simp only [wk, aBuiltin, AV.cells, AV.leaf, Nat.reduceEqDiff, Nat.reduceLT, Nat.reduceAdd, Nat.reduceLeDiff, reduceCtorEq, Nat.reduceMul, Nat.reduceMod, cfgP, u28, hlen, a0, hl1, hl2, ha2, ha3, hgl, hpK, hput2, tri_get0, tri_get1, tri_get2, tri_put0, tri_put2, d0, d7, d8, d9, st, tg0, tg2, tp0, nB, hl3]
          exact Fin_raw (l := [encJ (.mk 1 true 0 [] 0 [] 0 []), .bool true]) (by simp [wk, aBuiltin, AV.cells, AV.leaf, Nat.reduceEqDiff, Nat.reduceLT, Nat.reduceAdd, Nat.reduceLeDiff, reduceCtorEq, Nat.reduceMul, Nat.reduceMod, cfgP, u28, hlen, aResults, aResult, tg0, enc0])
        · have d9 : decide (p.kind = 9) = false := decide_eq_false h9
          simp only [if_neg h9]
          by_cases h10 : p.kind = 10
          · have d10 : decide (p.kind = 10) = true := decide_eq_true h10
            simp only [if_pos h10]
            dsimp only [Option.getD_some, Option.isSome_some]
            rw [if_pos rfl]
            refine ⟨_, ?_, fin _ [.cells 0 [.int .i64 1, .bool false, .int .i64 0, .str [], .nilS, .nilS], .cells 0 [.int .i64 p.kind, .int .i64 p.frm, .int .i64 p.to, .str p.text, .int .i64 p.n], .cells 0 [.int .i64 1, .bool false, .int .i64 0, .str [], .nilS, .nilS]]⟩
            rw [enc0]
            refine raw_slim rfl (by kernel_rfl) (by kernel_rfl) (by kernel_rfl) Tryd.func28 s28 (by simp [Tryd.f28]) fun fr hlen h => ?_
            simp only [Has, Nat.zero_add] at h
            obtain ⟨a0, -⟩ := h
            simp only [Tryd.f28] at hlen ⊢
            unfold g28
            simp only [wk, aBuiltin, AV.cells, AV.leaf, Nat.reduceEqDiff, Nat.reduceLT, Nat.reduceAdd, Nat.reduceLeDiff, reduceCtorEq, Nat.reduceMul, Nat.reduceMod, cfgP, u28, hlen, a0, hl1, hl2, ha2, ha3, hgl, hpK, hput2, tri_get0, tri_get1, tri_get2, tri_put0, tri_put2, d0, d7, d8, d9, d10, st, tg0, tg2, tp0, nB, hl3]
            exact Fin_raw (l := [encJ (.mk 1 false 0 [] 0 [] 0 []), .bool true]) (by simp [wk, aBuiltin, AV.cells, AV.leaf, Nat.reduceEqDiff, Nat.reduceLT, Nat.reduceAdd, Nat.reduceLeDiff, reduceCtorEq, Nat.reduceMul, Nat.reduceMod, cfgP, u28, hlen, aResults, aResult, tg0, enc0])
          · have d10 : decide (p.kind = 10) = false := decide_eq_false h10
            simp only [if_neg h10]
            by_cases h11 : p.kind = 11
            · have d11 : decide (p.kind = 11) = true := decide_eq_true h11
              simp only [if_pos h11]
              dsimp only [Option.getD_some, Option.isSome_some]
              rw [if_pos rfl]
              refine ⟨_, ?_, fin _ [.cells 0 [.int .i64 0, .bool false, .int .i64 0, .str [], .nilS, .nilS], .cells 0 [.int .i64 p.kind, .int .i64 p.frm, .int .i64 p.to, .str p.text, .int .i64 p.n], .cells 0 [.int .i64 0, .bool false, .int .i64 0, .str [], .nilS, .nilS]]⟩
              rw [enc0]
              refine raw_slim rfl (by kernel_rfl) (by kernel_rfl) (by kernel_rfl) Tryd.func28 s28 (by simp [Tryd.f28]) fun fr hlen h => ?_
              simp only [Has, Nat.zero_add] at h
              obtain ⟨a0, -⟩ := h
              simp only [Tryd.f28] at hlen ⊢
              unfold g28
              simp only [wk, aBuiltin, AV.cells, AV.leaf, Nat.reduceEqDiff, Nat.reduceLT, Nat.reduceAdd, Nat.reduceLeDiff, reduceCtorEq, Nat.reduceMul, Nat.reduceMod, cfgP, u28, hlen, a0, hl1, hl2, ha2, ha3, hgl, hpK, hput2, tri_get0, tri_get1, tri_get2, tri_put0, tri_put2, d0, d7, d8, d9, d10, d11, st, tg0, tg2, tp0]
              exact Fin_raw (l := [encJ (.mk 0 false 0 [] 0 [] 0 []), .bool true]) (by simp [wk, aBuiltin, AV.cells, AV.leaf, Nat.reduceEqDiff, Nat.reduceLT, Nat.reduceAdd, Nat.reduceLeDiff, reduceCtorEq, Nat.reduceMul, Nat.reduceMod, cfgP, u28, hlen, aResults, aResult, tg0, enc0])
            · have d11 : decide (p.kind = 11) = false := decide_eq_false h11
              simp only [if_neg h11]
              dsimp only [Option.getD_none, Option.isSome_none]
              rw [if_neg (by decide)]
              refine ⟨_, ?_, fin0 [.cells 0 [.int .i64 0, .bool false, .int .i64 0, .str [], .nilS, .nilS], .cells 0 [.int .i64 p.kind, .int .i64 p.frm, .int .i64 p.to, .str p.text, .int .i64 p.n], .cells 0 [.int .i64 0, .bool false, .int .i64 0, .str [], .nilS, .nilS]]⟩
              rw [enc0]
              refine raw_slim rfl (by kernel_rfl) (by kernel_rfl) (by kernel_rfl) Tryd.func28 s28 (by simp [Tryd.f28]) fun fr hlen h => ?_
              simp only [Has, Nat.zero_add] at h
              obtain ⟨a0, -⟩ := h
              simp only [Tryd.f28] at hlen ⊢
              unfold g28
              simp only [wk, aBuiltin, AV.cells, AV.leaf, Nat.reduceEqDiff, Nat.reduceLT, Nat.reduceAdd, Nat.reduceLeDiff, reduceCtorEq, Nat.reduceMul, Nat.reduceMod, cfgP, u28, hlen, a0, hl1, hl2, ha2, ha3, hgl, hpK, hput2, tri_get0, tri_get1, tri_get2, tri_put0, tri_put2, d0, d7, d8, d9, d10, d11]
              exact Fin_raw (l := [encJ (.mk 0 false 0 [] 0 [] 0 []), .bool false]) (by simp [wk, aBuiltin, AV.cells, AV.leaf, Nat.reduceEqDiff, Nat.reduceLT, Nat.reduceAdd, Nat.reduceLeDiff, reduceCtorEq, Nat.reduceMul, Nat.reduceMod, cfgP, u28, hlen, aResults, aResult, tri_get0, enc0])
  · have d0 : decide (¬ p.e = 0) = true := decide_eq_true he
    simp only [if_neg he]
    dsimp only [Option.getD_none, Option.isSome_none]
    rw [if_neg (by decide)]
    refine ⟨_, ?_, fin0 [.cells 0 [.int .i64 0, .bool false, .int .i64 0, .str [], .nilS, .nilS], .cells 0 [.int .i64 p.kind, .int .i64 p.frm, .int .i64 p.to, .str p.text, .int .i64 p.n], .cells 0 [.int .i64 0, .bool false, .int .i64 0, .str [], .nilS, .nilS]]⟩
    rw [enc0]
    refine raw_slim rfl (by kernel_rfl) (by kernel_rfl) (by kernel_rfl) Tryd.func28 s28 (by simp [Tryd.f28]) fun fr hlen h => ?_
    simp only [Has, Nat.zero_add] at h
    obtain ⟨a0, -⟩ := h
    simp only [Tryd.f28] at hlen ⊢
    unfold g28
    simp only [wk, aBuiltin, AV.cells, AV.leaf, Nat.reduceEqDiff, Nat.reduceLT, Nat.reduceAdd, Nat.reduceLeDiff, reduceCtorEq, Nat.reduceMul, Nat.reduceMod, cfgP, u28, hlen, a0, hl1, hl2, ha2, ha3, hgl, hpK, hput2, tri_get0, tri_get1, tri_get2, tri_put0, tri_put2, d0]
    exact Fin_raw (l := [encJ (.mk 0 false 0 [] 0 [] 0 []), .bool false]) (by simp [wk, aBuiltin, AV.cells, AV.leaf, Nat.reduceEqDiff, Nat.reduceLT, Nat.reduceAdd, Nat.reduceLeDiff, reduceCtorEq, Nat.reduceMul, Nat.reduceMod, cfgP, u28, hlen, aResults, aResult, tri_get0, enc0])
end Go.Proofs.YtimbhlbkidmplaaDoor
