import Derived.Test.YtnipaiklandliaaGreatDoorAbsSlim
namespace Go.Abs
open Go
def fieldOff (o : Nat) : AV → Option AV
 | .ptr b v off => some (.ptr b v (off + o))
 | .vptr cs off => some (.vptr cs (off + o))
 | _ => none
def fieldVal (P : Program) (t off : Nat) : AV → Option AV
 | .agg cs => rd P t cs off
 | _ => none
theorem fieldOff_ptr (o b v off : Nat) : fieldOff o (.ptr b v off) = some (.ptr b v (off + o)) := rfl
theorem fieldOff_vptr (o off : Nat) (cs : List AV) : fieldOff o (.vptr cs off) = some (.vptr cs (off + o)) := rfl
theorem fieldVal_agg (P : Program) (t off : Nat) (cs : List AV) : fieldVal P t off (.agg cs) = rd P t cs off := rfl
theorem ofV_int (k : IntKind) (n : Int) : ofV (.int k n) = some (.int k n) := rfl
theorem ofV_bool (b : Bool) : ofV (.bool b) = some (.bool b) := rfl
theorem ofV_string (s : ByteArray) : ofV (.string s) = some (.str s.data.toList) := rfl
theorem ofV_nilS : ofV (.slice none 0 0) = some .nilS := rfl
theorem ofV_nil : ofV (.pointer none) = some .nil := rfl
theorem ofV_nilM : ofV (.map none) = some .nilM := rfl
theorem ofV_nilF : ofV .nilFunc = some .nilF := rfl
theorem ofV_nilI : ofV .nilIface = some .nilI := rfl
theorem nilNe_int (P : Program) (t : TypeId) (k : IntKind) (n : Int) (y : AV) : aNilNe P t (.int k n) y = false := by
 unfold aNilNe; split <;> simp_all
theorem nilNe_bool (P : Program) (t : TypeId) (b : Bool) (y : AV) : aNilNe P t (.bool b) y = false := by
 unfold aNilNe; split <;> simp_all
section
variable (P : Program) (t : TypeId) (xo yo : Operand) (k : IntKind) (a b : Int)
theorem bin_add : aBin P .add t xo yo (.int k a) (.int k b) = some (.int k (k.wrap (a + b))) := by
 simp only [aBin, nilNe_int, Bool.false_eq_true, if_false]
 simp [toV, toV1, toV0, eqGuard, binOp, Op.intArith]; rfl
theorem bin_sub : aBin P .sub t xo yo (.int k a) (.int k b) = some (.int k (k.wrap (a - b))) := by
 simp only [aBin, nilNe_int, Bool.false_eq_true, if_false]
 simp [toV, toV1, toV0, eqGuard, binOp, Op.intArith]; rfl
theorem bin_mul : aBin P .mul t xo yo (.int k a) (.int k b) = some (.int k (k.wrap (a * b))) := by
 simp only [aBin, nilNe_int, Bool.false_eq_true, if_false]
 simp [toV, toV1, toV0, eqGuard, binOp, Op.intArith]; rfl
theorem bin_eql : aBin P .eql t xo yo (.int k a) (.int k b) = some (.bool (decide (a = b))) := by
 simp only [aBin, nilNe_int, Bool.false_eq_true, if_false]
 simp [toV, toV1, toV0, eqGuard, binOp, Op.intCmp]; rfl
theorem bin_neq : aBin P .neq t xo yo (.int k a) (.int k b) = some (.bool (decide (a ≠ b))) := by
 simp only [aBin, nilNe_int, Bool.false_eq_true, if_false]
 simp [toV, toV1, toV0, eqGuard, binOp, Op.intCmp]; rfl
theorem bin_lss : aBin P .lss t xo yo (.int k a) (.int k b) = some (.bool (decide (a < b))) := by
 simp only [aBin, nilNe_int, Bool.false_eq_true, if_false]
 simp [toV, toV1, toV0, eqGuard, binOp, Op.intCmp]; rfl
theorem bin_leq : aBin P .leq t xo yo (.int k a) (.int k b) = some (.bool (decide (a ≤ b))) := by
 simp only [aBin, nilNe_int, Bool.false_eq_true, if_false]
 simp [toV, toV1, toV0, eqGuard, binOp, Op.intCmp]; rfl
theorem bin_gtr : aBin P .gtr t xo yo (.int k a) (.int k b) = some (.bool (decide (b < a))) := by
 simp only [aBin, nilNe_int, Bool.false_eq_true, if_false]
 simp [toV, toV1, toV0, eqGuard, binOp, Op.intCmp]; rfl
theorem bin_geq : aBin P .geq t xo yo (.int k a) (.int k b) = some (.bool (decide (b ≤ a))) := by
 simp only [aBin, nilNe_int, Bool.false_eq_true, if_false]
 simp [toV, toV1, toV0, eqGuard, binOp, Op.intCmp]; rfl
theorem bin_str (op : BinOp) (s u : List UInt8) : aBin P op t xo yo (.str s) (.str u) = aStr op s u := rfl
theorem unop_not (c : Bool) : ((toV1 (.bool c)).bind fun v => (pureOf P (Op.unary .not v)).bind ofV1) = some (.bool (!c)) := rfl
end
inductive Sl {α : Type} (enc : α → AV) : AV → List α → Prop where
 | nil : Sl enc .nilS []
 | vs (l : List α) (full : Bool) : Sl enc (.vs (l.map enc) full) l
theorem Sl.len {α : Type} {enc : α → AV} {v : AV} {l : List α} (h : Sl enc v l) {P : Program} {H : Heap} {t e : TypeId} (hu : P.underlying t = some (.slice e)) : aLen P H t v = some (.int .i64 (l.length : Nat)) := by
 cases h with
 | nil => simp [aLen, hu]
 | vs l full => simp [aLen, hu]
theorem Sl.at {α : Type} {enc : α → AV} {v : AV} {l : List α} (h : Sl enc v l) {P : Program} {t e : TypeId} {sz : Nat} {k : IntKind} {i : Nat} (hu : P.underlying t = some (.slice e)) (hsz : sizeT P e = some sz)
  (he : ∀ x, (enc x).cells.length = sz) (hi : i < l.length) : aIndexAddr P t v (.int k (i : Nat)) = some (.vptr (enc l[i]).cells 0) := by
 cases h with
 | nil => simp at hi
 | vs l full => simp [aIndexAddr, asNat, hu, hsz, hi, he]
theorem loop_rule {X : Ctx} {c : Code} {κ : List K} {r : AV × Option Heap} (Inv : Nat → List AV → Heap → Prop)
  (step : ∀ m fr H, Inv m fr H → (∀ fr' H' m', m' < m → Inv m' fr' H' → U X (.loop c :: κ) .normal fr' H' r) → R X c (.loop c :: κ) fr H r) :
  ∀ (m : Nat) (fr : List AV) (H : Heap), Inv m fr H → R X (.loop c) κ fr H r := by
 intro m
 induction m using Nat.strongRecOn with
 | _ m ih =>
  intro fr H h
  rw [R_loop]
  refine step m fr H h fun fr' H' m' hm h' => ?_
  rw [U_loop, ← R_loop]
  exact ih m' hm fr' H' h'
theorem hget_old {H : Heap} {b v : Nat} {l : List Blk} (h : b < H.length) : hget (H ++ l) b v = hget H b v := by
 unfold hget; rw [List.getElem?_append_left h]
theorem hget_new {H : Heap} {b v v' : Nat} {cs : List AV} {l : List Blk} (h : b = H.length) : hget (H ++ .cells v' cs :: l) b v = if v' = v then some cs else none := by
 subst h; unfold hget; simp
theorem hput_eq {prot : Nat} {H : Heap} {b v off : Nat} {xs cs : List AV} (hg : hget H b v = some cs) (hp : prot ≤ b) (hl : off + xs.length ≤ cs.length) (hx : xs.all AV.leaf = true) (hv : v % 4 ≠ 3 := by omega) :
  hput prot H b v off xs = some (H.set b (.cells v (splice cs off xs))) := by
 unfold hput; rw [hg]; simp [hp, hl, hx, hv]
theorem hput_new {prot : Nat} {H : Heap} {b v off : Nat} {xs cs : List AV} {l : List Blk} (hb : b = H.length) (hp : prot ≤ H.length) (hl : off + xs.length ≤ cs.length) (hx : xs.all AV.leaf = true) (hv : v % 4 ≠ 3 := by omega) :
  hput prot (H ++ .cells v cs :: l) b v off xs = some (H ++ .cells v (splice cs off xs) :: l) := by
 rw [hput_eq (cs := cs) (by rw [hget_new hb]; simp) (by omega) hl hx hv, hb]
 simp
theorem wrap64 {n : Int} (h1 : -9223372036854775808 ≤ n) (h2 : n < 9223372036854775808) : IntKind.i64.wrap n = n := by
 simp [IntKind.wrap, IntKind.bits, IntKind.signed]
 split <;> omega
def SW (X : Ctx) (ops : Array Oper) (o : Oper) (l : List Oper) (κ : List K) (fr : List AV) (H : Heap) (w : Bool) (r : AV × Option Heap) : Prop :=
 if w then S1 X ops l κ fr H o.dst (aOp X.C.P (aLim X.C) X.prot fr o H) r else S X ops l κ (fput fr o.dst (.tup [])) H r
theorem S_step {X : Ctx} {κ : List K} {fr : List AV} {H : Heap} {r : AV × Option Heap} (ops : Array Oper) (o : Oper) (l : List Oper) : S X ops (o :: l) κ fr H r ↔ SW X ops o l κ fr H (aWanted ops fr o) r := S_cons ops o l
theorem SW_true {X : Ctx} {κ : List K} {fr : List AV} {H : Heap} {r : AV × Option Heap} (ops : Array Oper) (o : Oper) (l : List Oper) : SW X ops o l κ fr H true r ↔ S1 X ops l κ fr H o.dst (aOp X.C.P (aLim X.C) X.prot fr o H) r := Iff.rfl
theorem SW_false {X : Ctx} {κ : List K} {fr : List AV} {H : Heap} {r : AV × Option Heap} (ops : Array Oper) (o : Oper) (l : List Oper) : SW X ops o l κ fr H false r ↔ S X ops l κ (fput fr o.dst (.tup [])) H r := Iff.rfl
def TW (X : Ctx) (ops : Array Oper) (i : Nat) (o : Oper) (l : List Oper) (acc : List Rec) (H0 : Heap) (κ : List K) (fr : List AV) (H : Heap) (w : Bool) (r : AV × Option Heap) : Prop :=
 if w then T1 X ops i o l acc H0 κ fr H (aOp X.C.P (aLim X.C) X.prot fr o H) r else T X ops (i + 1) l (⟨i, o, fr, H, false, .tup [], none⟩ :: acc) H0 κ (fput fr o.dst (.tup [])) H r
theorem T_step {X : Ctx} {κ : List K} {fr : List AV} {H H0 : Heap} {r : AV × Option Heap} {ops : Array Oper} {i : Nat} {acc : List Rec} (o : Oper) (l : List Oper) : T X ops i (o :: l) acc H0 κ fr H r ↔ TW X ops i o l acc H0 κ fr H (aWanted ops fr o) r := T_cons o l
theorem TW_true {X : Ctx} {κ : List K} {fr : List AV} {H H0 : Heap} {r : AV × Option Heap} {ops : Array Oper} {i : Nat} {acc : List Rec} (o : Oper) (l : List Oper) : TW X ops i o l acc H0 κ fr H true r ↔ T1 X ops i o l acc H0 κ fr H (aOp X.C.P (aLim X.C) X.prot fr o H) r := Iff.rfl
theorem TW_false {X : Ctx} {κ : List K} {fr : List AV} {H H0 : Heap} {r : AV × Option Heap} {ops : Array Oper} {i : Nat} {acc : List Rec} (o : Oper) (l : List Oper) : TW X ops i o l acc H0 κ fr H false r ↔ T X ops (i + 1) l (⟨i, o, fr, H, false, .tup [], none⟩ :: acc) H0 κ (fput fr o.dst (.tup [])) H r := Iff.rfl
theorem le_app {n : Nat} {H : Heap} (h : n ≤ H.length) (l : List Blk) : (n ≤ (H ++ l).length) = True := by simp; omega
theorem fr_get {fr : List AV} {t : Nat} (h : t < fr.length) : fr[t]? = some (fget fr t) := by simp [fget, h]
theorem Fin_pure {C : Cfg} {prot : Nat} {res : List ResultVar} {sn : Bool} {fr : List AV} {H : Heap} {l : List AV} {r : AV} (h : aResults C.P fr H res = some l) (hf : Frz H prot (packR l) r) (hs : sn = true → flat r = true) :
  Fin ⟨C, prot, res, .pure sn⟩ fr H (r, none) := ⟨l, h, r, hf, hs, rfl⟩
theorem Fin_raw {C : Cfg} {prot : Nat} {res : List ResultVar} {fr : List AV} {H : Heap} {l : List AV} (h : aResults C.P fr H res = some l) :
  Fin ⟨C, prot, res, .raw⟩ fr H (packR l, some H) := ⟨l, h, rfl⟩
theorem binH_int (P : Program) (H : Heap) (op : BinOp) (t : TypeId) (xo yo : Operand) (k : IntKind) (a : Int) (y : AV) : aBinH P H op t xo yo (.int k a) y = aBin P op t xo yo (.int k a) y := by
 unfold aBinH; cases P.underlying t with
 | none => rfl
 | some d => cases d <;> rfl
theorem binH_str (P : Program) (H : Heap) (op : BinOp) (t : TypeId) (xo yo : Operand) (a : List UInt8) (y : AV) : aBinH P H op t xo yo (.str a) y = aBin P op t xo yo (.str a) y := by
 unfold aBinH; cases P.underlying t with
 | none => rfl
 | some d => cases d <;> rfl
theorem binH_bool (P : Program) (H : Heap) (op : BinOp) (t : TypeId) (xo yo : Operand) (a : Bool) (y : AV) : aBinH P H op t xo yo (.bool a) y = aBin P op t xo yo (.bool a) y := by
 unfold aBinH; cases P.underlying t with
 | none => rfl
 | some d => cases d <;> rfl
theorem binH_nil (P : Program) (H : Heap) (op : BinOp) (t : TypeId) (xo yo : Operand)  (y : AV) : aBinH P H op t xo yo (.nil) y = aBin P op t xo yo (.nil) y := by
 unfold aBinH; cases P.underlying t with
 | none => rfl
 | some d => cases d <;> rfl
theorem binH_nilS (P : Program) (H : Heap) (op : BinOp) (t : TypeId) (xo yo : Operand)  (y : AV) : aBinH P H op t xo yo (.nilS) y = aBin P op t xo yo (.nilS) y := by
 unfold aBinH; cases P.underlying t with
 | none => rfl
 | some d => cases d <;> rfl
theorem binH_vs (P : Program) (H : Heap) (op : BinOp) (t : TypeId) (xo yo : Operand) (a : List AV) (f : Bool) (y : AV) : aBinH P H op t xo yo (.vs a f) y = aBin P op t xo yo (.vs a f) y := by
 unfold aBinH; cases P.underlying t with
 | none => rfl
 | some d => cases d <;> rfl
theorem binH_bs (P : Program) (H : Heap) (op : BinOp) (t : TypeId) (xo yo : Operand) (a : BS) (y : AV) : aBinH P H op t xo yo (.bs a) y = aBin P op t xo yo (.bs a) y := by
 unfold aBinH; cases P.underlying t with
 | none => rfl
 | some d => cases d <;> rfl
theorem binH_nilM (P : Program) (H : Heap) (op : BinOp) (t : TypeId) (xo yo : Operand)  (y : AV) : aBinH P H op t xo yo (.nilM) y = aBin P op t xo yo (.nilM) y := by
 unfold aBinH; cases P.underlying t with
 | none => rfl
 | some d => cases d <;> rfl
theorem binH_map (P : Program) (H : Heap) (op : BinOp) (t : TypeId) (xo yo : Operand) (a : Nat) (y : AV) : aBinH P H op t xo yo (.map a) y = aBin P op t xo yo (.map a) y := by
 unfold aBinH; cases P.underlying t with
 | none => rfl
 | some d => cases d <;> rfl
theorem binH_agg (P : Program) (H : Heap) (op : BinOp) (t : TypeId) (xo yo : Operand) (a : List AV) (y : AV) : aBinH P H op t xo yo (.agg a) y = aBin P op t xo yo (.agg a) y := by
 unfold aBinH; cases P.underlying t with
 | none => rfl
 | some d => cases d <;> rfl
theorem binH_nilI (P : Program) (H : Heap) (op : BinOp) (t : TypeId) (xo yo : Operand)  (y : AV) : aBinH P H op t xo yo (.nilI) y = aBin P op t xo yo (.nilI) y := by
 unfold aBinH; cases P.underlying t with
 | none => rfl
 | some d => cases d <;> rfl
theorem binH_iface_nil (P : Program) (H : Heap) (op : BinOp) (t : TypeId) (xo yo : Operand) (a : Nat) (v : AV) : aBinH P H op t xo yo (.iface a v) .nilI = aBin P op t xo yo (.iface a v) .nilI := by
 unfold aBinH; cases P.underlying t with
 | none => rfl
 | some d => cases d <;> rfl
theorem binH_iface_eq (P : Program) (H : Heap) (op : BinOp) (t : TypeId) (xo yo : Operand) (a : Nat) (v w : AV) : aBinH P H op t xo yo (.iface a v) (.iface a w) = aBin P op t xo yo (.iface a v) (.iface a w) := by
 unfold aBinH; cases P.underlying t with
 | none => rfl
 | some d => cases d <;> simp
theorem binH_nilF (P : Program) (H : Heap) (op : BinOp) (t : TypeId) (xo yo : Operand)  (y : AV) : aBinH P H op t xo yo (.nilF) y = aBin P op t xo yo (.nilF) y := by
 unfold aBinH; cases P.underlying t with
 | none => rfl
 | some d => cases d <;> rfl
theorem binH_vptr (P : Program) (H : Heap) (op : BinOp) (t : TypeId) (xo yo : Operand) (a : List AV) (n : Nat) (y : AV) : aBinH P H op t xo yo (.vptr a n) y = aBin P op t xo yo (.vptr a n) y := by
 unfold aBinH; cases P.underlying t with
 | none => rfl
 | some d => cases d <;> rfl
theorem binH_ptr (P : Program) (H : Heap) (op : BinOp) (t : TypeId) (xo yo : Operand) (b v o : Nat) : aBinH P H op t xo yo (.ptr b v o) .nil = aBin P op t xo yo (.ptr b v o) .nil := by
 unfold aBinH; cases P.underlying t with
 | none => rfl
 | some d => cases d <;> rfl
theorem aLoad_ptr (P : Program) (t : TypeId) (H : Heap) (b v o : Nat) : aLoad P t H (.ptr b v o) = (hget H b v).bind fun cs => rd P t cs o := rfl
theorem aLoad_vptr (P : Program) (t : TypeId) (H : Heap) (cs : List AV) (o : Nat) : aLoad P t H (.vptr cs o) = rd P t cs o := rfl
theorem aStore_ptr (P : Program) (t : TypeId) (prot : Nat) (H : Heap) (b v o : Nat) (x : AV) : aStore P t prot H (.ptr b v o) x = (sizeT P t).bind fun n => if x.cells.length = n then hput prot H b v o x.cells else none := rfl
theorem avbeq_refl (a : AV) : AV.beq a a = true :=
 AV.rec (motive_1 := fun a => AV.beq a a = true) (motive_2 := fun l => AV.beqL l l = true)
  (fun _ => by simp [AV.beq]) (fun _ _ => by simp [AV.beq]) (fun _ => by simp [AV.beq]) rfl (fun _ _ _ => by simp [AV.beq]) (fun cs o ih => by simp [AV.beq, ih]) rfl (fun es f ih => by simp [AV.beq, ih])
  (fun _ => by simp [AV.beq]) rfl (fun _ => by simp [AV.beq]) rfl (fun f x y ih1 ih2 => by simp [AV.beq, ih1, ih2]) rfl (fun t v ih => by simp [AV.beq, ih]) (fun cs ih => by simp [AV.beq, ih]) (fun cs ih => by simp [AV.beq, ih]) (fun a => by simp [AV.beq]) (fun r => by simp [AV.beq])
  rfl (fun x l ihx ihl => by simp [AV.beqL, ihx, ihl]) a
theorem beqL_refl : ∀ l, AV.beqL l l = true
 | [] => rfl
 | x :: l => by simp [AV.beqL, avbeq_refl, beqL_refl l]
theorem beqE_refl : ∀ l, beqE l l = true
 | [] => rfl
 | (a, b) :: l => by simp [beqE, avbeq_refl, beqE_refl l]
theorem trimOk_at {H0 H : Heap} : trimOk H0 H = true ↔ H0.length ≤ H.length ∧ ∀ b, b < H0.length → (blkSame H0[b]? H[b]? || blkOk H0.length H0[b]? H[b]?) = true := by
 simp only [trimOk, Bool.and_eq_true, decide_eq_true_iff, List.all_eq_true, List.mem_range]
theorem trimOk_refl (H : Heap) : trimOk H H = true := by
 refine trimOk_at.2 ⟨Nat.le_refl _, fun b hb => ?_⟩
 cases h : H[b]? with
 | none => rfl
 | some k => cases k <;> simp [blkSame, blkOk, beqL_refl, beqE_refl]
theorem trimOk_app {H0 H : Heap} (h : trimOk H0 H = true) (G : List Blk) : trimOk H0 (H ++ G) = true := by
 rw [trimOk_at] at h ⊢
 refine ⟨by simp; omega, fun b hb => ?_⟩
 rw [List.getElem?_append_left (by omega)]; exact h.2 b hb
theorem trimOk_new {H0 H : Heap} (h : trimOk H0 H = true) {b : Nat} (hb : H0.length ≤ b) (k : Blk) : trimOk H0 (H.set b k) = true := by
 rw [trimOk_at] at h ⊢
 refine ⟨by simpa using h.1, fun c hc => ?_⟩
 rw [List.getElem?_set_ne (by omega)]; exact h.2 c hc
theorem trimOk_set {H0 H : Heap} (h : trimOk H0 H = true) {b v : Nat} {cs : List AV} (hb : AV.blwL H0.length cs = true) : trimOk H0 (H.set b (.cells v cs)) = true := by
 rw [trimOk_at] at h ⊢
 refine ⟨by simpa using h.1, fun c hc => ?_⟩
 by_cases e : b = c
 ·subst e
  have : b < H.length := by omega
  simp [this, blkOk, hb]
 ·rw [List.getElem?_set_ne e]; exact h.2 c hc
theorem Fin_trim {C : Cfg} {prot : Nat} {res : List ResultVar} {H0 : Heap} {fr : List AV} {H H1 : Heap} {l : List AV} {r : AV} (h : aResults C.P fr H res = some l) (hf : Frz H H0.length (packR l) r) (ht : trimOk H0 H = true) (hH : H.take H0.length = H1) :
  Fin ⟨C, prot, res, .trim H0⟩ fr H (r, some H1) := ⟨l, h, r, hf, ht, by rw [hH]⟩
theorem take_set_new {H : Heap} {n b : Nat} (hb : n ≤ b) (k : Blk) : (H.set b k).take n = H.take n := by
 rw [List.take_set, List.set_eq_of_length_le (by simp; omega)]
end Go.Abs

