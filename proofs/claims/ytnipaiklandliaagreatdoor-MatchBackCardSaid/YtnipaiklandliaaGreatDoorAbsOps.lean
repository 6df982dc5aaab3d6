import Derived.Test.YtnipaiklandliaaGreatDoorAbsMem
namespace Go.Abs
open Go
section
variable {P : Program} {E : Env}
theorem pureOf_run {α : Type} {s : Sem α} {a : α} (h : pureOf P s = some a) (w : World) : s.run P w = .ok a w := by
 induction s with
 | pure x => simp only [pureOf, Option.some.injEq] at h; subst h; rfl
 | program k ih => simp only [pureOf] at h; simp only [Sem.run]; exact ih P h
 | _ => simp [pureOf] at h
theorem ofV0_rel {v : Value} {x : AV} (h : ofV0 v = some x) : VRel E x v := by
 unfold ofV0 at h
 split at h <;> simp only [Option.some.injEq, reduceCtorEq] at h <;> subst h
 ·exact .bool _
 ·exact .int _ _
 ·exact .str _
 ·exact .nil
 ·exact .nilS
 ·exact .nilM
 ·exact .nilF
 ·exact .nilI
theorem ofV1_rel {v : Value} {x : AV} (h : ofV1 v = some x) : VRel E x v := by
 unfold ofV1 at h
 split at h
 ·simp only [Option.map_eq_some_iff] at h; obtain ⟨y, hy, rfl⟩ := h; exact .iface _ _ _ (ofV0_rel hy)
 ·exact ofV0_rel h
theorem ofVs_rel {l : List Value} {x : List AV} (h : ofVs l = some x) : LRel E x l.toArray := by
 induction l generalizing x with
 | nil => simp only [ofVs, Option.some.injEq] at h; subst h; exact .nil E
 | cons v r ih =>
  simp only [ofVs, Option.bind_eq_some_iff, Option.map_eq_some_iff] at h
  obtain ⟨y, hy, z, hz, rfl⟩ := h
  exact .cons (ofV1_rel hy) (ih hz)
theorem ofV_rel {v : Value} {x : AV} (h : ofV v = some x) : VRel E x v := by
 unfold ofV at h
 split at h
 ·simp only [Option.map_eq_some_iff] at h; obtain ⟨y, hy, rfl⟩ := h
  have := ofVs_rel (E := E) hy; exact .agg _ _ this.1 this.get
 ·simp only [Option.map_eq_some_iff] at h; obtain ⟨y, hy, rfl⟩ := h
  have := ofVs_rel (E := E) hy; exact .tup _ _ this.1 this.get
 ·exact ofV1_rel h
theorem aEval_ok {fr : List AV} {a : Act} (hf : LRel E fr a.tmps) {x : Operand} {v : AV} (h : aEval fr x = some v) : VRel E v (a.eval x) := by
 cases x with
 | tmp t => simp only [aEval, Option.some.injEq] at h; subst h; exact hf.2 t
 | const c => exact ofV_rel h
 | global g => simp [aEval] at h
 | func f => simp only [aEval, Option.some.injEq] at h; subst h; exact .func f [] [] #[] #[] rfl rfl (fun j h => by simp at h) (fun j h => by simp at h)
theorem aEvals_ok {fr : List AV} {a : Act} (hf : LRel E fr a.tmps) {l : List Operand} {vs : List AV} (h : aEvals fr l = some vs) : LRel E vs (l.map a.eval).toArray := by
 induction l generalizing vs with
 | nil => simp only [aEvals, Option.some.injEq] at h; subst h; exact .nil E
 | cons x r ih =>
  simp only [aEvals, Option.bind_eq_some_iff, Option.map_eq_some_iff] at h
  obtain ⟨y, hy, z, hz, rfl⟩ := h
  exact .cons (aEval_ok hf hy) (ih hz)
inductive PRel (E : Env) : List (Nat × AV) → List (Nat × Value) → Prop where
 | nil : PRel E [] []
 | cons (i : Nat) {v : AV} {v' : Value} {l : List (Nat × AV)} {l' : List (Nat × Value)} (h : VRel E v v') (hr : PRel E l l') : PRel E ((i, v) :: l) ((i, v') :: l')
theorem aParts_ok {fr : List AV} {a : Act} (hf : LRel E fr a.tmps) {l : List (Nat × Operand)} {ps : List (Nat × AV)} (h : aParts fr l = some ps) :
  PRel E ps (l.map fun (i, x) => (i, a.eval x)) := by
 induction l generalizing ps with
 | nil => simp only [aParts, Option.some.injEq] at h; subst h; exact .nil
 | cons x r ih =>
  obtain ⟨i, x⟩ := x
  simp only [aParts, Option.bind_eq_some_iff, Option.map_eq_some_iff] at h
  obtain ⟨y, hy, z, hz, rfl⟩ := h
  exact .cons i (aEval_ok hf hy) (ih hz)
theorem isAggT_run {t : TypeId} {b : Bool} (h : isAggT P t = some b) (w : World) : (isAgg t).run P w = .ok b w := by
 unfold isAggT at h
 split at h <;> simp only [Option.some.injEq, reduceCtorEq] at h
 ·rename_i hu; subst h; simp [isAgg, run_underlying hu]
 ·rename_i hu; subst h; simp [isAgg, run_underlying hu]
 ·rename_i d h1 h2 hu; subst h
  simp only [isAgg, Sem.run_bind, run_underlying hu, Result.andThen_ok]
  cases d <;> first | rfl | (exact absurd rfl (h1 _)) | (exact absurd rfl (h2 _ _))
theorem sizeT_run {t : TypeId} {n : Nat} (h : sizeT P t = some n) (w : World) : (sizeOf t).run P w = .ok n w := by
 unfold sizeT at h
 simp only [Option.map_eq_some_iff] at h
 obtain ⟨i, hi, rfl⟩ := h
 simp [sizeOf, typeInfo, hi]
theorem zeroT_run {t : TypeId} {z : AV} (h : zeroT P t = some z) : ∃ zv, (∀ w, (zeroValue t).run P w = .ok zv w) ∧ (∀ E, VRel E z zv) ∧ ∃ i, P.info? t = some i ∧ i.zero = some zv := by
 unfold zeroT at h
 simp only [Option.bind_eq_some_iff] at h
 obtain ⟨zv, ⟨i, hi, hz⟩, ho⟩ := h
 exact ⟨zv, fun w => by simp [zeroValue, typeInfo, hi, hz], fun E => ofV_rel ho, i, hi, hz⟩
theorem VRel.cells {v : AV} {v' : Value} (h : VRel E v v') : LRel E v.cells v'.cells := by
 cases h with
 | agg cs cs' h hr => exact .of h hr
 | _ => exact LRel.cons (l := []) (a := []) (by constructor <;> assumption) (.nil E)
theorem VRel.isLeaf {v : AV} {v' : Value} (h : VRel E v v') (hl : v.leaf = true) : v'.oneCell' = true := by
 cases h <;> simp_all [AV.leaf, Value.oneCell']
theorem HRel.cell {b ver : Nat} {cs : List AV} (hE : HRel E) (h : hget E.H b ver = some cs) (j : Nat) (hj : j < cs.length) :
  ∃ u, E.w.cell? (at0 (E.ρ b) j) = some u ∧ VRel E cs[j] u := by
 obtain ⟨cc, e, z, hh, hl, _, hr⟩ := hE.cells b ver cs (alive_of_hget h)
 refine ⟨_, ?_, (hr j hj).2⟩
 simp [World.cell?, at0, hh, Array.getD_eq_getD_getElem?, show (E.ρ b).2 + j < cc.size by omega]
def CellsAt (E : Env) (blk o : Nat) (cs : List AV) : Prop := ∀ j (h : j < cs.length), ∃ u, E.w.cell? ⟨blk, o + j, none⟩ = some u ∧ VRel E cs[j] u
theorem win_spec {cs c : List AV} {off n : Nat} (h : win cs off n = some c) : off + n ≤ cs.length ∧ c = (cs.drop off).take n ∧ c.length = n := by
 unfold win at h
 split at h
 ·simp only [Option.some.injEq] at h; subst h; rename_i hle; exact ⟨hle, rfl, by simp; omega⟩
 ·cases h
theorem CellsAt.win {blk o off n : Nat} {cs c : List AV} (h : CellsAt E blk o cs) (hw : win cs off n = some c) : CellsAt E blk (o + off) c := by
 obtain ⟨hle, rfl, hn⟩ := win_spec hw
 intro j hj
 obtain ⟨u, h1, h2⟩ := h (off + j) (by omega)
 exact ⟨u, by rw [← h1]; simp [Nat.add_assoc], by simpa using h2⟩
theorem CellsAt.load {blk o : Nat} {cs : List AV} (h : CellsAt E blk o cs) : ∃ a : Array Value, (loadCells ⟨blk, o, none⟩ cs.length).run P E.w = .ok a E.w ∧ LRel E cs a := by
 refine ⟨_, run_loadCells E.w ⟨blk, o, none⟩ cs.length (fun j => (E.w.cell? ⟨blk, o + j, none⟩).getD undef) (fun j hj => ?_), .of (by simp) fun j hj => ?_⟩
 ·obtain ⟨u, h1, _⟩ := h j hj; rw [Addr.add_lit, h1]; rfl
 ·obtain ⟨u, h1, h2⟩ := h j hj
  simpa [Array.getD_eq_getD_getElem?, hj, h1] using h2
theorem CellsAt.loadVar {blk o off : Nat} {t : TypeId} {cs : List AV} {r : AV} (hc : CellsAt E blk o cs) (h : rd P t cs off = some r) :
  ∃ v', (loadVar t ⟨blk, o + off, none⟩).run P E.w = .ok v' E.w ∧ VRel E r v' := by
 unfold rd at h
 simp only [Option.bind_eq_some_iff] at h
 obtain ⟨ag, hag, h⟩ := h
 have ha := isAggT_run hag E.w
 cases ag with
 | true =>
  simp only [if_true, Option.bind_eq_some_iff, Option.map_eq_some_iff] at h
  obtain ⟨n, hn, c, hw, rfl⟩ := h
  obtain ⟨a, ha', hr⟩ := (hc.win hw).load (P := P)
  rw [(win_spec hw).2.2] at ha'
  exact ⟨.agg a, by simp [Go.loadVar, ha, sizeT_run hn, ha'], .agg _ _ hr.1 hr.get⟩
 | false =>
  simp only [Bool.false_eq_true, if_false] at h
  obtain ⟨hlt, rfl⟩ := List.getElem?_eq_some_iff.1 h
  obtain ⟨u, h1, h2⟩ := hc off hlt
  exact ⟨u, by simp [Go.loadVar, ha, h1], h2⟩
theorem HRel.cellsAt {b ver : Nat} {cs : List AV} (hE : HRel E) (h : hget E.H b ver = some cs) : CellsAt E (E.ρ b).1 (E.ρ b).2 cs := fun j hj => hE.cell h j hj
theorem aLoad_ok (hE : HRel E) {t : TypeId} {a r : AV} {a' : Value} (ha : VRel E a a') (h : aLoad P t E.H a = some r) :
  ∃ v', (Instr.loadAt t a').run P E.w = .ok v' E.w ∧ VRel E r v' := by
 cases ha with
 | ptr b ver off ad hb hv hp =>
  simp only [aLoad, Option.bind_eq_some_iff] at h
  obtain ⟨cs, hc, h⟩ := h
  obtain ⟨v', h1, h2⟩ := (hE.cellsAt hc).loadVar h
  exact ⟨v', by simp [Instr.loadAt, Instr.sureAddr, hp cs hc, at0, h1], h2⟩
 | vptr cs off ad o f hp hi hs ho hc hr =>
  simp only [aLoad] at h
  have hca : CellsAt E ad.block o cs := fun j hj => ⟨_, hc j hj, hr j hj⟩
  obtain ⟨v', h1, h2⟩ := hca.loadVar h
  have : ad = ⟨ad.block, o + off, none⟩ := by cases ad; simp_all
  exact ⟨v', by rw [this]; simpa [Instr.loadAt, Instr.sureAddr] using h1, h2⟩
 | _ => simp [aLoad] at h
theorem VRel.fieldAt {s : TypeId} {f : Nat} {a r : AV} {a' : Value} (ha : VRel E a a') (h : aFieldAddr P s f a = some r) :
  ∃ v', (Instr.fieldAt s a' f).run P E.w = .ok v' E.w ∧ VRel E r v' := by
 unfold aFieldAddr fieldT at h
 simp only [Option.bind_eq_some_iff] at h
 obtain ⟨fd, hfd, n, hn, h⟩ := h
 split at hfd
 ·rename_i fs hu
  split at h
  ·cases h
  ·rename_i hn0
   have hrun : ∀ x : Addr, x.spot = none → (Instr.fieldAt s (.pointer (some x)) f).run P E.w = .ok (.pointer (some ⟨x.block, x.off + fd.offset, none⟩)) E.w := fun x hx => by
    simp only [Instr.fieldAt, Sem.run_bind, run_underlying hu, Result.andThen_ok, hfd, Instr.sureAddr, Sem.run_pure, fieldPlace, sizeT_run hn, hn0, if_false]
    obtain ⟨b, o, sp⟩ := x
    simp only at hx; subst hx
    rw [Addr.add_lit]
   cases ha with
   | ptr b ver off ad hb hv hp =>
    simp only [Option.some.injEq] at h; subst h
    by_cases hg : ∃ cs, hget E.H b ver = some cs
    ·obtain ⟨cs, hc⟩ := hg
     have e := hp cs hc
     subst e
     exact ⟨_, hrun _ rfl, .ptr _ _ _ _ hb hv fun _ _ => by simp [at0, Nat.add_assoc]⟩
    ·obtain ⟨b', o', sp⟩ := ad
     cases sp with
     | none => exact ⟨_, hrun _ rfl, .ptr _ _ _ _ hb hv fun cs hc => absurd ⟨cs, hc⟩ hg⟩
     | some sp =>
      refine ⟨_, ?_, .ptr _ _ _ (Addr.add ⟨b', o', some sp⟩ fd.offset) hb hv fun cs hc => absurd ⟨cs, hc⟩ hg⟩
      simp [Instr.fieldAt, run_underlying hu, hfd, Instr.sureAddr, fieldPlace, sizeT_run hn, hn0]
   | vptr cs off ad o f' hp hi hs ho hc hr =>
    simp only [Option.some.injEq] at h; subst h
    exact ⟨_, hrun _ hs, .vptr cs _ _ o f' hp hi rfl (by simp [ho, Nat.add_assoc]) hc hr⟩
   | _ => simp at h
 ·cases hfd
theorem part_ok {t : TypeId} {cs : List AV} {a : Array Value} {off : Nat} {r : AV} (hl : LRel E cs a) (h : rd P t cs off = some r) :
  ∃ v', (part t a off).run P E.w = .ok v' E.w ∧ VRel E r v' := by
 unfold rd at h
 simp only [Option.bind_eq_some_iff] at h
 obtain ⟨ag, hag, h⟩ := h
 have ha := isAggT_run hag E.w
 cases ag with
 | true =>
  simp only [if_true, Option.bind_eq_some_iff, Option.map_eq_some_iff] at h
  obtain ⟨n, hn, c, hw, rfl⟩ := h
  obtain ⟨hle, rfl, hlen⟩ := win_spec hw
  refine ⟨.agg (a.extract off (off + n)), by simp [part, ha, sizeT_run hn], .agg _ _ (by simp [hl.1] at *; omega) fun j hj => ?_⟩
  rw [hlen] at hj
  have := hl.get (off + j) (by omega)
  have hs := hl.1
  have e : (a.extract off (off + n)).getD j Go.undef = a.getD (off + j) Go.undef := by
   rw [Array.getD_eq_getD_getElem?, Array.getD_eq_getD_getElem?, Array.getElem?_extract, if_pos (by omega)]
  rw [e]; simpa using this
 | false =>
  simp only [Bool.false_eq_true, if_false] at h
  obtain ⟨hlt, rfl⟩ := List.getElem?_eq_some_iff.1 h
  have := hl.get off hlt
  have hs := hl.1
  refine ⟨a.getD off Go.undef, ?_, this⟩
  simp [part, ha, Array.getD_eq_getD_getElem?, show off < a.size by omega]
theorem aField_ok {s : TypeId} {f : Nat} {a r : AV} {a' : Value} (ha : VRel E a a') (h : aField P s f a = some r) :
  ∃ v', (Instr.field s a' f).run P E.w = .ok v' E.w ∧ VRel E r v' := by
 cases ha with
 | agg cs cs' hl hr =>
  unfold aField fieldT at h
  simp only [Option.bind_eq_some_iff] at h
  obtain ⟨fd, hfd, h⟩ := h
  split at hfd
  ·rename_i fs hu
   obtain ⟨v', h1, h2⟩ := part_ok (.of hl hr) h
   exact ⟨v', by simp [Instr.field, run_underlying hu, hfd, asAgg, h1], h2⟩
  ·cases hfd
 | _ => simp [aField] at h
theorem asNat_spec {x : AV} {x' : Value} {i : Nat} (hx : VRel E x x') (h : asNat x = some i) : ∃ k, x' = .int k (i : Int) := by
 cases hx <;> simp only [asNat, reduceCtorEq] at h
 rename_i k n
 split at h
 ·simp only [Option.some.injEq] at h; subst h
  exact ⟨k, by rw [Int.toNat_of_nonneg (by assumption)]⟩
 ·cases h
end
end Go.Abs

