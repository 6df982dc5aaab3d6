import Derived.Test.YtnipaiklandliaaGreatDoorAbsExt
namespace Go.Abs
open Go
def Env.shut (E : Env) (base : Nat) : Env := { E with ip := base }
theorem KeepAll.shut {E : Env} {base : Nat} (h : E.ip ≤ base) : KeepAll E (E.shut base) :=
 ⟨⟨fun _ hi => ⟨⟨hi.1, fun ⟨b, h1, h2, h3⟩ => hi.2 ⟨b, Nat.le_trans h h1, h2, h3⟩⟩, rfl⟩⟩, Nat.le_refl _, fun _ v' cs' _ h => ⟨v', cs', h, Nat.le_refl _, fun _ => rfl⟩, fun _ es' _ h => ⟨⟨es', h⟩, rfl⟩, fun _ cc _ z h => ⟨cc, z, h, rfl⟩⟩
theorem HRel.shut {E : Env} (hE : HRel E) {base : Nat} (h : E.ip ≤ base) : HRel (E.shut base) :=
 .mk' (fun _ _ hb ha => let ⟨o, ho, hr⟩ := hE.blk hb ha; ⟨o, ho, hr.mono (KeepAll.shut h)⟩) hE.inj hE.ge hE.lo
theorem snap_gen {E ET : Env} (hE : HRel E) (hk : KeepAll E ET) (hw : ET.w = E.w) : ∀ {l l' : List AV} {a : List Value} {b : Bool}, snap E.H l = some (l', b) → LRel E l a.toArray →
  (∀ s, AV.bs s ∈ l → alive E.H s.b → ¬ Wr ET (E.ρ s.b).1) → LRel ET l' a.toArray ∧ (b = false → l' = l)
 | [], l', a, b, h, hl, _ => by
  simp only [snap, Option.some.injEq, Prod.mk.injEq] at h
  obtain ⟨rfl, rfl⟩ := h
  exact ⟨hl.mono hk, fun _ => rfl⟩
 | v :: r, l', a, b, h, hl, hd => by
  rw [LRel.list] at hl
  have hd' : ∀ s, AV.bs s ∈ r → alive E.H s.b → ¬ Wr ET (E.ρ s.b).1 := fun s hs => hd s (by simp [hs])
  cases a with
  | nil => simp at hl
  | cons u a =>
   have hv := hl.2 0
   simp only [List.getD_cons_zero] at hv
   have hr : LRel E r a.toArray := LRel.list.2 ⟨by simpa using hl.1, fun j => by simpa using hl.2 (j + 1)⟩
   have other : (snap E.H r).map (fun (l, b) => (v :: l, b)) = some (l', b) → LRel ET l' (u :: a).toArray ∧ (b = false → l' = v :: r) := by
    intro h
    simp only [Option.map_eq_some_iff, Prod.mk.injEq] at h
    obtain ⟨⟨l1, b1⟩, h1, rfl, rfl⟩ := h
    obtain ⟨h2, h3⟩ := snap_gen hE hk hw h1 hr hd'
    exact ⟨.cons (hv.mono hk) h2, fun hb => by rw [h3 hb]⟩
   cases v with
   | bs s =>
    simp only [snap] at h
    split at h
    case isFalse => cases h
    rename_i hcond
    obtain ⟨h0, hag⟩ := hcond
    simp only [Option.bind_eq_some_iff] at h
    obtain ⟨cs, hcs, w, hwin, h⟩ := h
    split at h
    case isFalse => cases h
    rename_i hpl
    simp only [Option.map_eq_some_iff, Prod.mk.injEq] at h
    obtain ⟨⟨l1, b1⟩, h1, rfl, rfl⟩ := h
    obtain ⟨h2, _⟩ := snap_gen hE hk hw h1 hr hd'
    refine ⟨.cons ?_ h2, fun hb => by cases hb⟩
    cases hv with
    | bs _ ad c hb hvr hlc hx h' =>
     obtain ⟨ha, _⟩ := h' cs hcs
     have hca : CellsAt ET (E.ρ s.b).1 ((E.ρ s.b).2 + s.off) w := by
      intro j hj
      obtain ⟨u, h1, h2⟩ := ((hE.cellsAt (b := s.b) (ver := s.ver) hcs).win hwin) j hj
      exact ⟨u, by rw [hw]; exact h1, h2.mono hk⟩
     have hleaf := win_leaf (hE.leaf hcs) hwin
     have hal : alive E.H s.b := .inl ⟨_, _, alive_of_hget hcs⟩
     rw [ha]
     exact tree_ok h0 hag (win_spec hwin).2.2 hca hpl (fun v hv => List.all_eq_true.1 hleaf v hv) ⟨by rw [hw]; exact hE.lt hal, hd s (by simp) hal⟩ hlc (fun hq => by cases hq)
   | _ => exact other h
theorem snap_ok {E : Env} (hE : HRel E) (hip : E.ip ≤ E.H.length) {l l' : List AV} {a : List Value} {b : Bool} (h : snap E.H l = some (l', b)) (hl : LRel E l a.toArray) :
  LRel (E.shut E.H.length) l' a.toArray ∧ (b = false → l' = l) :=
 snap_gen hE (KeepAll.shut hip) rfl h hl fun s _ _ ⟨b, h3, h4, _⟩ => by
  have := alive_lt h4
  simp only [Env.shut] at h3 this
  omega
theorem killA_spec {prot : Nat} : ∀ {l : List AV} {H Hk : Heap}, killA prot H l = some Hk → Hk.length = H.length ∧ (∀ b, Hk[b]? = H[b]? ∨ (prot ≤ b ∧ Hk[b]? = some .dead)) ∧ ∀ s, AV.bs s ∈ l → s.b < H.length → Hk[s.b]? = some .dead
 | [], H, Hk, h => by
  simp only [killA, Option.some.injEq] at h
  subst h
  exact ⟨rfl, fun _ => .inl rfl, fun s hs => by simp at hs⟩
 | v :: r, H, Hk, h => by
  have other : killA prot H r = some Hk → (∀ s, v ≠ .bs s) → Hk.length = H.length ∧ (∀ b, Hk[b]? = H[b]? ∨ (prot ≤ b ∧ Hk[b]? = some .dead)) ∧ ∀ s, AV.bs s ∈ v :: r → s.b < H.length → Hk[s.b]? = some .dead := fun h hv => by
   obtain ⟨h1, h2, h3⟩ := killA_spec h
   refine ⟨h1, h2, fun s hs => h3 s ?_⟩
   rcases List.mem_cons.1 hs with rfl | h
   ·exact absurd rfl (hv s)
   ·exact h
  cases v with
  | bs s =>
   simp only [killA] at h
   split at h
   case isFalse => cases h
   rename_i hp
   obtain ⟨h1, h2, h3⟩ := killA_spec h
   simp only [List.length_set] at h1 h3
   have key : ∀ b, Hk[b]? = H[b]? ∨ (prot ≤ b ∧ Hk[b]? = some .dead) := fun b => by
    rcases h2 b with h4 | h4
    ·by_cases hb : s.b = b
     ·subst hb
      by_cases hl : s.b < H.length
      ·rw [List.getElem?_set_self hl] at h4; exact .inr ⟨hp, h4⟩
      ·have e1 : (H.set s.b Blk.dead)[s.b]? = none := List.getElem?_eq_none (by simp; omega)
       have e2 : H[s.b]? = none := List.getElem?_eq_none (by omega)
       rw [e1] at h4
       exact .inl (by rw [h4, e2])
     ·rw [List.getElem?_set_ne hb] at h4; exact .inl h4
    ·exact .inr h4
   refine ⟨h1, key, fun x hx hl => ?_⟩
   rcases List.mem_cons.1 hx with e | hx
   ·obtain rfl : x = s := by injection e
    rcases h2 x.b with h4 | h4
    ·rw [h4, List.getElem?_set_self hl]
    ·exact h4.2
   ·exact h3 x hx hl
  | _ => exact other (by simpa [killA] using h) (fun s e => by cases e)
def Env.kill (E : Env) (Hk : Heap) : Env := { E with H := Hk }
section
variable {E : Env} {Hk : Heap} {prot : Nat} (hl : Hk.length = E.H.length) (hk : ∀ b, Hk[b]? = E.H[b]? ∨ (prot ≤ b ∧ Hk[b]? = some .dead))
include hk in
theorem alive_kill {b : Nat} (h : alive Hk b) : alive E.H b ∧ Hk[b]? = E.H[b]? := by
 rcases hk b with h1 | ⟨_, h1⟩
 ·exact ⟨by unfold alive at *; rw [← h1]; exact h, h1⟩
 ·rcases h with ⟨v, cs, h⟩ | ⟨es, h⟩ <;> rw [h1] at h <;> cases h
include hl hk in
theorem Step.kill : Step prot E (E.kill Hk) where
 len := by simp only [Env.kill]; omega
 cell b v' cs' hb hc := by
  have := (alive_kill hk (b := b) (.inl ⟨v', cs', hc⟩)).2
  exact ⟨v', cs', by rw [← this]; exact hc, Nat.le_refl _, fun _ => rfl⟩
 map b es' hb hc := by
  have := (alive_kill hk (b := b) (.inr ⟨es', hmap_eq hc⟩)).2
  exact ⟨⟨es', hmap_of (by rw [← this]; exact hmap_eq hc)⟩, rfl⟩
 imm cb hi := ⟨⟨hi.1, fun ⟨b, h1, h2, h3⟩ => hi.2 ⟨b, h1, (alive_kill hk h2).1, h3⟩⟩, rfl⟩
 shape cb cc e z h := ⟨cc, z, h, rfl⟩
 prot b hb _ := by
  rcases hk b with h | ⟨h, _⟩
  ·exact ⟨h, rfl, fun _ => rfl⟩
  ·omega
 size := Nat.le_refl _
 os := rfl
 tape := rfl
 output := rfl
 ip := rfl
 lo := rfl
include hl hk in
theorem HRel.kill (hE : HRel E) : HRel (E.kill Hk) :=
 .mk' (fun b blk hb ha => by
   obtain ⟨h1, h2⟩ := alive_kill hk ha
   obtain ⟨o, ho, hr⟩ := hE.blk (by rw [← h2]; exact hb) h1
   exact ⟨o, ho, hr.mono (Step.kill hl hk).all⟩)
  (fun b b' ha ha' he => hE.inj b b' (alive_kill hk ha).1 (alive_kill hk ha').1 he) (fun b ha => hE.ge b (alive_kill hk ha).1) hE.lo
end
theorem pl_blw (n : Nat) (v : AV) : AV.pl v = true → AV.blw n v = true :=
 AV.rec (motive_1 := fun v => AV.pl v = true → AV.blw n v = true) (motive_2 := fun l => AV.plL l = true → AV.blwL n l = true)
  (fun _ _ => rfl) (fun _ _ _ => rfl) (fun _ _ => rfl) (fun _ => rfl) (fun _ _ _ h => by simp [AV.pl] at h)
  (fun cs o ih h => by simp only [AV.pl, AV.blw] at h ⊢; exact ih h) (fun _ => rfl) (fun es f ih h => by simp only [AV.pl, AV.blw] at h ⊢; exact ih h)
  (fun s h => by simp [AV.pl] at h) (fun _ => rfl) (fun r h => by simp [AV.pl] at h) (fun _ => rfl)
  (fun f x y ih1 ih2 h => by simp only [AV.pl, AV.blw, Bool.and_eq_true] at h ⊢; exact ⟨ih1 h.1, ih2 h.2⟩) (fun _ => rfl)
  (fun t v ih h => by simp only [AV.pl, AV.blw] at h ⊢; exact ih h) (fun cs ih h => by simp only [AV.pl, AV.blw] at h ⊢; exact ih h) (fun cs ih h => by simp only [AV.pl, AV.blw] at h ⊢; exact ih h) (fun _ _ => rfl) (fun r h => by simp [AV.pl] at h)
  (fun _ => rfl) (fun x l ihx ihl h => by simp only [AV.plL, AV.blwL, Bool.and_eq_true] at h ⊢; exact ⟨ihx h.1, ihl h.2⟩) v
theorem plL_blwL (n : Nat) : ∀ (l : List AV), AV.plL l = true → AV.blwL n l = true
 | [], _ => rfl
 | x :: l, h => by simp only [AV.plL, AV.blwL, Bool.and_eq_true] at h ⊢; exact ⟨pl_blw n x h.1, plL_blwL n l h.2⟩
theorem blwL_get {n : Nat} : ∀ {l : List AV}, AV.blwL n l = true → ∀ j (hj : j < l.length), AV.blw n l[j] = true
 | [], _, j, hj => by simp at hj
 | x :: l, h, j, hj => by
  simp only [AV.blwL, Bool.and_eq_true] at h
  cases j with
  | zero => exact h.1
  | succ j => simpa using blwL_get h.2 j (by simpa using hj)
theorem blwL_of {n : Nat} : ∀ {l : List AV}, (∀ j (hj : j < l.length), AV.blw n l[j] = true) → AV.blwL n l = true
 | [], _ => rfl
 | x :: l, h => by
  simp only [AV.blwL, Bool.and_eq_true]
  exact ⟨h 0 (by simp), blwL_of fun j hj => (h (j + 1) (by simpa using hj) :)⟩
theorem VRel.blw {E : Env} {v : AV} {v' : Value} (h : VRel E v v') : AV.blw E.H.length v = true := by
 induction h with
 | ptr b ver off a hb hv h => simpa [AV.blw] using hb
 | bs s a c hb hv hl hx h => simpa [AV.blw] using hb
 | map r m hb h => simpa [AV.blw] using hb
 | it r m hb h => simpa [AV.blw] using hb
 | vptr cs off a o f hp hi hs ho hc hr ih => simpa only [AV.blw] using plL_blwL _ _ hp
 | vs es full a c sz f hp hc hf hi hz hv hr ih => simpa only [AV.blw] using plL_blwL _ _ hp
 | func f first caps first' caps' h1 h2 hr1 hr2 ih1 ih2 => simp only [AV.blw, Bool.and_eq_true]; exact ⟨blwL_of ih1, blwL_of ih2⟩
 | iface t v v' h ih => simpa only [AV.blw] using ih
 | agg cs cs' h hr ih => simpa only [AV.blw] using blwL_of ih
 | tup cs cs' h hr ih => simpa only [AV.blw] using blwL_of ih
 | _ => rfl
def Env.cut (E : Env) (n : Nat) : Env := { E with H := E.H.take n }
theorem get_take {H : Heap} {n b : Nat} (h : b < n) : (H.take n)[b]? = H[b]? := List.getElem?_take_of_lt h
theorem alive_cut {E : Env} {n b : Nat} (h : alive (E.cut n).H b) : b < n ∧ alive E.H b := by
 have hlt := alive_lt h
 simp only [Env.cut, List.length_take] at hlt
 refine ⟨by omega, ?_⟩
 unfold alive Env.cut at *
 simp only at h
 rw [get_take (by omega)] at h
 exact h
theorem Keep.cut (E : Env) (n : Nat) : Keep E (E.cut n) := ⟨fun _ hi => ⟨⟨hi.1, fun ⟨b, h1, h2, h3⟩ => hi.2 ⟨b, h1, (alive_cut h2).2, h3⟩⟩, rfl⟩⟩
theorem hget_cut {E : Env} {n b ver : Nat} (h : b < n) : hget (E.cut n).H b ver = hget E.H b ver := by unfold hget Env.cut; simp only; rw [get_take h]
theorem hmap_cut {E : Env} {n b : Nat} (h : b < n) : hmap (E.cut n).H b = hmap E.H b := by unfold hmap Env.cut; simp only; rw [get_take h]
theorem VRel.cut {E : Env} {n : Nat} (hn : n ≤ E.H.length) {v : AV} {v' : Value} (h : VRel E v v') : AV.blw n v = true → VRel (E.cut n) v v' := by
 have hlen : (E.cut n).H.length = n := by simp only [Env.cut, List.length_take]; omega
 induction h with
 | ptr b ver off a hb hv h =>
  intro hw
  have hb' : b < n := by simpa [AV.blw] using hw
  refine .ptr b ver off a (by omega) (fun v cs hc => hv v cs ?_) fun cs hc => h cs ?_
  ·rw [← hc]; exact (get_take hb').symm
  ·rw [hget_cut hb'] at hc; exact hc
 | bs s a c hb hv hl hx h =>
  intro hw
  have hb' : s.b < n := by simpa [AV.blw] using hw
  refine .bs s a c (by omega) (fun v cs hc => hv v cs ?_) hl hx fun cs hc => h cs ?_
  ·rw [← hc]; exact (get_take hb').symm
  ·rw [hget_cut hb'] at hc; exact hc
 | map r m hb h =>
  intro hw
  have hb' : r < n := by simpa [AV.blw] using hw
  exact .map r m (by omega) fun es hc => h es (by rw [hmap_cut hb'] at hc; exact hc)
 | vptr cs off a o f hp hi hs ho hc hr ih => exact fun _ => VRel.plain (Keep.cut E n) (.vptr cs off a o f hp hi hs ho hc hr) (by simpa only [AV.pl] using hp)
 | vs es full a c sz f hp hc hf hi hz hv hr ih => exact fun _ => VRel.plain (Keep.cut E n) (.vs es full a c sz f hp hc hf hi hz hv hr) (by simpa only [AV.pl] using hp)
 | func f first caps first' caps' h1 h2 hr1 hr2 ih1 ih2 =>
  intro hw
  simp only [AV.blw, Bool.and_eq_true] at hw
  exact .func f first caps first' caps' h1 h2 (fun j hj => ih1 j hj (blwL_get hw.1 j hj)) (fun j hj => ih2 j hj (blwL_get hw.2 j hj))
 | iface t v v' h ih => intro hw; exact .iface t v v' (ih (by simpa only [AV.blw] using hw))
 | agg cs cs' h hr ih => intro hw; exact .agg cs cs' h fun j hj => ih j hj (blwL_get (by simpa only [AV.blw] using hw) j hj)
 | tup cs cs' h hr ih => intro hw; exact .tup cs cs' h fun j hj => ih j hj (blwL_get (by simpa only [AV.blw] using hw) j hj)
 | bool b => exact fun _ => .bool b
 | int k n => exact fun _ => .int k n
 | str s => exact fun _ => .str s
 | nil => exact fun _ => .nil
 | nilS => exact fun _ => .nilS
 | nilM => exact fun _ => .nilM
 | nilF => exact fun _ => .nilF
 | nilI => exact fun _ => .nilI
 | adr a => exact fun _ => .adr a
 | it r m hb h =>
  intro hw
  have hb' : r < n := by simpa [AV.blw] using hw
  exact .it r m (by omega) fun es hc => h es (by rw [hmap_cut hb'] at hc; exact hc)
def BlkBlw (n : Nat) : Blk → Prop
 | .cells _ cs => AV.blwL n cs = true
 | .map es => ∀ e ∈ es, AV.blw n e.1 = true ∧ AV.blw n e.2 = true
 | .dead => True
theorem BRel.cut {E : Env} {n : Nat} (hn : n ≤ E.H.length) {p : Nat × Nat} {blk : Blk} {o : Obj} (h : BRel E p blk o) (hb : BlkBlw n blk) :
  BRel (E.cut n) p blk o := by
 cases h with
 | cells v cs cc e z hl hz hr ht => exact .cells v cs cc e z hl hz (fun j hj => ⟨(hr j hj).1, (hr j hj).2.cut hn (blwL_get hb j hj)⟩) ht
 | map es o h =>
  refine .map es o ?_
  cases h with
  | map _ es' ck hf hl hr => exact .map es es' ck hf hl fun j hj => ⟨(hr j hj).1.cut hn (hb _ (List.getElem_mem hj)).1, (hr j hj).2.cut hn (hb _ (List.getElem_mem hj)).2⟩
  | it s k => exact .it s k
theorem BRel.blw {E : Env} {p : Nat × Nat} {blk : Blk} {o : Obj} (h : BRel E p blk o) : BlkBlw E.H.length blk := by
 cases h with
 | cells v cs cc e z hl hz hr ht => exact blwL_of fun j hj => (hr j hj).2.blw
 | map es o h =>
  intro e he
  cases h with
  | map _ es' ck hf hl hr =>
   obtain ⟨j, hj, rfl⟩ := List.getElem_of_mem he
   exact ⟨(hr j hj).1.blw, (hr j hj).2.blw⟩
  | it s k => rw [itB, List.mem_singleton] at he; subst he; exact ⟨rfl, rfl⟩
theorem beqL_eq : ∀ (l m : List AV), AV.beqL l m = true → l = m
 | [], [], _ => rfl
 | x :: l, y :: m, h => by simp only [AV.beqL, Bool.and_eq_true] at h; rw [AV.beq_eq _ _ h.1, beqL_eq l m h.2]
 | [], _ :: _, h => by simp [AV.beqL] at h
 | _ :: _, [], h => by simp [AV.beqL] at h
theorem beqE_eq : ∀ (l m : List (AV × AV)), beqE l m = true → l = m
 | [], [], _ => rfl
 | (a, b) :: l, (c, d) :: m, h => by simp only [beqE, Bool.and_eq_true] at h; rw [AV.beq_eq _ _ h.1.1, AV.beq_eq _ _ h.1.2, beqE_eq l m h.2]
 | [], _ :: _, h => by simp [beqE] at h
 | _ :: _, [], h => by simp [beqE] at h
theorem HRel.cut {E E1 : Env} (hE : HRel E) (hE1 : HRel E1) (ht : trimOk E.H E1.H = true) : HRel (E1.cut E.H.length) := by
 simp only [trimOk, Bool.and_eq_true, decide_eq_true_iff, List.all_eq_true, List.mem_range, Bool.or_eq_true] at ht
 obtain ⟨hle, ht⟩ := ht
 refine .mk' (fun b blk hb ha => ?_) (fun b b' ha ha' he => hE1.inj b b' (alive_cut ha).2 (alive_cut ha').2 he) (fun b ha => hE1.ge b (alive_cut ha).2) hE1.lo
 obtain ⟨hlt, ha1⟩ := alive_cut ha
 have hb1 : E1.H[b]? = some blk := by rw [← hb]; exact (get_take hlt).symm
 obtain ⟨o, ho, hr⟩ := hE1.blk hb1 ha1
 refine ⟨o, ho, hr.cut hle ?_⟩
 rcases ht b hlt with h | h
 ·rw [hb1] at h
  cases hb0 : E.H[b]? with
  | none => rw [hb0] at h; cases blk <;> simp [blkSame] at h
  | some k =>
   rw [hb0] at h
   have hk : k = blk := by
    cases k <;> cases blk <;> simp only [blkSame, Bool.false_eq_true, Bool.and_eq_true, decide_eq_true_iff] at h
    ·rw [h.1, beqL_eq _ _ h.2]
    ·rw [beqE_eq _ _ h]
   subst hk
   have ha0 : alive E.H b := by unfold alive at ha1 ⊢; rw [hb0]; rw [hb1] at ha1; exact ha1
   obtain ⟨o0, _, hr0⟩ := hE.blk hb0 ha0
   exact hr0.blw
 ·rw [hb1] at h
  cases blk with
  | cells v cs => simpa [blkOk, BlkBlw] using h
  | map es => simp only [blkOk, List.all_eq_true, Bool.and_eq_true] at h; exact h
  | dead => trivial
theorem Step.cut {prot : Nat} {E E1 : Env} (h : Step prot E E1) : Step prot E (E1.cut E.H.length) where
 len := by simp only [Env.cut, List.length_take]; have := h.len; omega
 cell b v' cs' hb hc := h.cell b v' cs' hb (by rw [← hc]; exact (get_take hb).symm)
 map b es' hb hc := h.map b es' hb (by rw [hmap_cut hb] at hc; exact hc)
 imm cb hi := ⟨((Keep.cut E1 _).imm cb (h.imm cb hi).1).1, (h.imm cb hi).2⟩
 shape := h.shape
 prot b hb hl := by
  obtain ⟨h1, h2, h3⟩ := h.prot b hb hl
  exact ⟨by rw [← h1]; exact get_take hl, h2, h3⟩
 size := h.size
 os := h.os
 tape := h.tape
 output := h.output
 ip := h.ip
 lo := h.lo
section
variable {C : Cfg}
structure Fits (C : Cfg) : Prop where
 noCount : NoCount C.P
 mixed : C.P.follows .mixedOrders = true
 own : CallOk C.P C.own := by intro _ _ _ _ _ _ h; cases h
 regs : ∀ (f : FuncId) (fn : Func) (c : Code), C.ok f = true → C.P.funcs[f]? = some fn → fn.body = some c → regsOk c = true
theorem aBody_ok (hF : Fits C) {call : CallT} (hcall : CallOk C.P call) {N prot : Nat} {f : FuncId} {fn : Func} {c : Code} (hok : C.ok f = true) (hfn : C.P.funcs[f]? = some fn) (hb : fn.body = some c)
  {E : Env} {args : List AV} {args' : Array Value} {r : AV} {H' : Heap} (hE : HRel E) (hip : E.ip ≤ prot) (ha : LRel E args args') (h : aBody C.P call (iter N) prot fn c args E.H = some (r, H')) :
  Calls C.P f args' E.w fun e w' => ∃ v' E', e = .returned v' ∧ E'.w = w' ∧ E'.H = H' ∧ HRel E' ∧ Step prot E E' ∧ VRel E' r v' := by
 unfold aBody at h
 simp only [Option.bind_eq_some_iff] at h
 obtain ⟨⟨e, fr, H1⟩, h1, h⟩ := h
 dsimp only at h
 refine calls_of_wp hfn hb ?_
 have hf0 : LRel E (args ++ List.replicate (fn.ntmps - args.length) (.tup [])) (args' ++ Array.replicate (fn.ntmps - args'.size) undef) := by
  have e1 : args.length = args'.size := ha.1
  rw [e1]
  refine ha.append (.of (by simp) fun j hj => ?_)
  have hj' : j < fn.ntmps - args'.size := by simpa using hj
  rw [Array.getD_eq_getD_getElem?, Array.getElem?_replicate, if_pos hj']
  simp only [List.getElem_replicate, Option.getD_some]
  exact .undef E
 refine wp_mono (aCode_ok (P := C.P) (call := call) (prot := prot) (N := N) hF.noCount hcall hF.mixed c (hF.regs f fn c hok hfn hb) E _ { tmps := args' ++ Array.replicate (fn.ntmps - args'.size) undef, defers := [] } e fr H1 hE hip hf0 h1) ?_
 intro ex a w' hp
 obtain ⟨hex, E', rfl, rfl, hE', hst, hf, hd⟩ := hp
 have fin : (aResults C.P fr E'.H fn.results.toList).map (fun l => (packR l, E'.H)) = some (r, H') → a.defers = [] ∧ ∃ v, (results fn a.tmps).run C.P E'.w = .ok v E'.w ∧ ∃ v' E2, Ending.returned v = .returned v' ∧ E2.w = E'.w ∧ E2.H = H' ∧ HRel E2 ∧ Step prot E E2 ∧ VRel E2 r v' := by
  intro h
  simp only [Option.map_eq_some_iff, Prod.mk.injEq] at h
  obtain ⟨vs, hvs, rfl, rfl⟩ := h
  obtain ⟨v', h2, h3⟩ := results_ok (P := C.P) hE' hf hvs
  exact ⟨hd, v', h2, v', E', rfl, rfl, rfl, hE', hst, h3⟩
 subst hex
 cases e with
 | exit id => cases h
 | normal => exact fin h
 | ret => exact fin h
theorem aCall_ok (hF : Fits C) : ∀ k, CallOk C.P (aCall C k) := by
 intro k
 induction k with
 | zero => intro prot f args H r h hh; simp [aCall] at hh
 | succ k ih =>
  intro prot f args H r h hh
  simp only [aCall] at hh
  split at hh
  ·split at hh
   ·cases hh
   ·exact hF.own _ _ _ _ _ _ hh
  rename_i hok
  simp only [Bool.not_eq_false] at hok
  simp only [Option.bind_eq_some_iff] at hh
  obtain ⟨fn, hfn, hh⟩ := hh
  cases hb : fn.body with
  | none =>
   simp only [hb] at hh
   split at hh
   ·cases hh
   simp only [Option.bind_eq_some_iff] at hh
   obtain ⟨x, hx, hh⟩ := hh
   split at hh
   ·cases hh
   cases hh
   refine .inr ⟨fn, hfn, hb, fun E args' hEH hE hip ha => ?_⟩
   subst hEH
   exact aExt_ok hF.noCount hfn hb hE hip ha hx
  | some c =>
  simp only [hb] at hh
  refine .inl ⟨fn, c, hfn, hb, fun E args' hEH hE hip ha => ?_⟩
  subst hEH
  split at hh
  ·-- what came in stays, trees come out
   split at hh
   case isFalse => cases hh
   rename_i hpl
   simp only [Option.bind_eq_some_iff] at hh
   obtain ⟨⟨args1, sn⟩, hsn, ⟨r1, H1⟩, hbody, r2, hfr, hh⟩ := hh
   dsimp only at hbody hfr hh
   have hipH : E.ip ≤ E.H.length := Nat.le_trans hip hpl
   have ha' : LRel E args args'.toList.toArray := by simpa using ha
   let E2 : Env → Env → Nat → Env := fun E E1 ip => { ρ := E.ρ, H := E.H, w := E1.w, ip := ip, lo := E.lo }
   have run : ∀ (E : Env) (ip0 : Nat) (r1 r2 : AV) (H1 : Heap), HRel E → E.ip ≤ ip0 → ip0 ≤ E.H.length → LRel (E.shut ip0) args1 args' → aBody C.P (aCall C k) (iter k) E.H.length fn c args1 E.H = some (r1, H1) → frP H1 E.H.length k r1 = some r2 →
     Calls C.P f args' E.w fun e w' => ∃ v' E1, e = .returned v' ∧ E1.w = w' ∧ HRel (E2 E E1 E.ip) ∧ Step prot E (E2 E E1 E.ip) ∧ VRel (E2 E E1 ip0) r2 v' := by
    intro E ip0 r1 r2 H1 hE hip0 hip0' hargs0 hbody hfr
    have hE0 := hE.shut hip0
    have hrun := aBody_ok hF ih hok hfn hb (E := E.shut ip0) (prot := E.H.length) hE0 hip0' hargs0 hbody
    refine hrun.mono ?_
    rintro e w' ⟨v', E1, rfl, rfl, rfl, hE1, hst, hv⟩
    have hkeepH : ∀ b, b < E.H.length → E1.H[b]? = E.H[b]? ∧ E1.ρ b = E.ρ b ∧ (alive E.H b → E1.w.heap[(E.ρ b).1]? = E.w.heap[(E.ρ b).1]?) := fun b hb => hst.prot b hb hb
    have hal1 : ∀ b, alive E.H b → alive E1.H b := fun b hb => by
     unfold alive at *; rw [(hkeepH b (alive_lt hb)).1]; exact hb
    have hkeep : KeepAll E (E2 E E1 E.ip) := by
     refine ⟨⟨fun cb hi => ?_⟩, Nat.le_refl _, fun _ v' cs' _ h => ⟨v', cs', h, Nat.le_refl _, fun _ => rfl⟩, fun _ es' _ h => ⟨⟨es', h⟩, rfl⟩, fun cb cc e z h => hst.shape cb cc e z h⟩
     have h0 : Imm (E.shut ip0) cb := ((KeepAll.shut hip0).imm cb hi).1
     exact ⟨⟨Nat.lt_of_lt_of_le hi.1 hst.size, hi.2⟩, (hst.imm cb h0).2⟩
    have hH2 : HRel (E2 E E1 E.ip) := by
     refine .mk' (fun b blk hb ha => ?_) hE.inj hE.ge (Nat.le_trans hE.lo hst.size)
     obtain ⟨o, ho, hr⟩ := hE.blk hb ha
     exact ⟨o, by rw [← ho]; exact (hkeepH b (alive_lt ha)).2.2 ha, hr.mono hkeep⟩
    have hstep : Step prot E (E2 E E1 E.ip) := ⟨Nat.le_refl _, hkeep.cell, hkeep.map, hkeep.imm, hkeep.shape,
     fun b _ hl => ⟨rfl, rfl, (hkeepH b hl).2.2⟩, hst.size, hst.os, hst.tape, hst.output, rfl, rfl⟩
    have hfz : FrzOk E1 (E2 E E1 ip0) E.H.length := by
     refine ⟨rfl, ⟨fun cb hi => ⟨⟨hi.1, ?_⟩, rfl⟩⟩, fun b hb ha => ⟨hE1.lt ha, ?_⟩⟩
     ·rintro ⟨b, h1, h2, h3⟩
      refine hi.2 ⟨b, ?_, hal1 b h2, ?_⟩
      ·rw [hst.ip]; exact h1
      ·rw [(hkeepH b (alive_lt h2)).2.1]; exact h3
     ·rintro ⟨b2, h1, h2, h3⟩
      have hlt := alive_lt h2
      have := hE1.inj b2 b (hal1 b2 h2) ha (by rw [(hkeepH b2 hlt).2.1]; exact h3)
      simp only [E2] at hlt
      omega
    obtain ⟨hr2, _, _⟩ := (frP_ok hE1 hfz _).1 _ _ _ hv hfr
    exact ⟨v', E1, rfl, rfl, hH2, hstep, hr2⟩
   split at hh
   ·split at hh
    ·-- what comes out leads nowhere
     rename_i hfl
     simp only [Option.some.injEq, Prod.mk.injEq] at hh
     obtain ⟨rfl, rfl⟩ := hh
     obtain ⟨hsnap, _⟩ := snap_ok hE hipH hsn ha'
     refine (run E E.H.length r1 _ H1 hE hipH (Nat.le_refl _) (by simpa using hsnap) hbody hfr).mono ?_
     rintro e w' ⟨v', E1, rfl, rfl, hH2, hstep, hr2⟩
     exact ⟨v', E2 E E1 E.ip, rfl, rfl, rfl, hH2, hstep, flat_rel hr2 hfl⟩
    ·-- the rows that came in go
     split at hh
     ·cases hh
     simp only [Option.bind_eq_some_iff, Option.map_eq_some_iff, Prod.mk.injEq] at hh
     obtain ⟨Hk, hkl, ⟨r3, H3⟩, hbody3, r4, hfr3, rfl, rfl⟩ := hh
     dsimp only at hbody3 hfr3
     obtain ⟨hkl1, hkl2, hkl3⟩ := killA_spec hkl
     have hst0 := Step.kill hkl1 hkl2
     have hE0 := HRel.kill hkl1 hkl2 hE
     obtain ⟨hsnap, _⟩ := snap_gen hE hst0.all rfl hsn ha' fun s hs hal ⟨b, _, h4, h5⟩ => by
      obtain ⟨h6, h7⟩ := alive_kill hkl2 h4
      obtain rfl := hE.inj b s.b h6 hal h5
      have h8 := hkl3 s hs (alive_lt hal)
      rcases h4 with ⟨v, cs, h4⟩ | ⟨es, h4⟩ <;> simp only [Env.kill] at h4 <;> rw [h8] at h4 <;> cases h4
     have hlen : (E.kill Hk).H.length = E.H.length := hkl1
     refine (run (E.kill Hk) E.ip r3 r4 H3 hE0 (Nat.le_refl _) (by rw [hlen]; exact hipH) (by
       have h9 := hsnap.mono (KeepAll.shut (E := E.kill Hk) (Nat.le_refl _))
       simp only [Array.toArray_toList] at h9
       exact h9) (by rw [hlen]; exact hbody3) (by rw [hlen]; exact hfr3)).mono ?_
     rintro e w' ⟨v', E1, rfl, rfl, hH2, hstep, hr2⟩
     exact ⟨v', E2 (E.kill Hk) E1 E.ip, rfl, rfl, rfl, hH2, hst0.trans hstep, hr2⟩
   ·rename_i hsnn
    simp only [Option.some.injEq, Prod.mk.injEq] at hh
    obtain ⟨rfl, rfl⟩ := hh
    have hs0 : sn = false := by simpa using hsnn
    obtain ⟨_, hsnf⟩ := snap_ok hE hipH hsn ha'
    have hargs : LRel (E.shut E.ip) args1 args' := by rw [hsnf hs0]; exact ha.mono (KeepAll.shut (Nat.le_refl _))
    refine (run E E.ip r1 _ H1 hE (Nat.le_refl _) hipH hargs hbody hfr).mono ?_
    rintro e w' ⟨v', E1, rfl, rfl, hH2, hstep, hr2⟩
    exact ⟨v', E2 E E1 E.ip, rfl, rfl, rfl, hH2, hstep, hr2⟩
  ·split at hh
   ·-- in an empty heap
    split at hh
    case isFalse => cases hh
    rename_i hpl
    simp only [Option.bind_eq_some_iff] at hh
    obtain ⟨⟨r1, H1⟩, hbody, hh⟩ := hh
    dsimp only at hh
    split at hh
    case isFalse => cases hh
    rename_i hfl
    simp only [Option.some.injEq, Prod.mk.injEq] at hh
    obtain ⟨rfl, rfl⟩ := hh
    let E0 : Env := { ρ := E.ρ, H := [], w := E.w, ip := 0, lo := E.w.heap.size }
    have hno : ∀ b, ¬ alive E0.H b := by
     rintro b (⟨v, cs, h⟩ | ⟨es, h⟩) <;> simp [E0] at h
    have hE0 : HRel E0 := .mk' (fun b _ _ ha => (hno b ha).elim) (fun b _ ha => (hno b ha).elim) (fun b ha => (hno b ha).elim) (Nat.le_refl _)
    have him : ∀ cb, cb < E.w.heap.size → Imm E0 cb := fun cb h => ⟨h, fun ⟨b, _, ha, _⟩ => hno b ha⟩
    have hk0 : Keep E E0 := ⟨fun cb hi => ⟨him cb hi.1, rfl⟩⟩
    have ha0 : LRel E0 args args' := by
     exact .of ha.1 fun j hj => (ha.get j hj).plain hk0 (plL_get hpl j hj)
    refine (aBody_ok hF ih hok hfn hb (E := E0) (prot := 0) hE0 (Nat.le_refl _) ha0 hbody).mono ?_
    rintro e w' ⟨v', E1, rfl, rfl, rfl, hE1, hst, hv⟩
    have hsame : ∀ cb, cb < E.w.heap.size → E1.w.heap[cb]? = E.w.heap[cb]? := fun cb h => (hst.imm cb (him cb h)).2
    let E2 : Env := { ρ := E.ρ, H := E.H, w := E1.w, ip := E.ip, lo := E.lo }
    have hkeep : KeepAll E E2 := by
     refine ⟨⟨fun cb hi => ⟨⟨Nat.lt_of_lt_of_le hi.1 hst.size, hi.2⟩, hsame cb hi.1⟩⟩, Nat.le_refl _, fun _ v' cs' _ h => ⟨v', cs', h, Nat.le_refl _, fun _ => rfl⟩, fun _ es' _ h => ⟨⟨es', h⟩, rfl⟩, fun cb cc e z h => hst.shape cb cc e z h⟩
    have hH2 : HRel E2 := by
     refine .mk' (fun b blk hb ha => ?_) hE.inj hE.ge (Nat.le_trans hE.lo hst.size)
     obtain ⟨o, ho, hr⟩ := hE.blk hb ha
     exact ⟨o, by rw [← ho]; exact hsame _ (hE.lt ha), hr.mono hkeep⟩
    exact ⟨v', E2, rfl, rfl, rfl, hH2, ⟨Nat.le_refl _, hkeep.cell, hkeep.map, hkeep.imm, hkeep.shape,
     fun b _ hl => ⟨rfl, rfl, fun ha => hsame _ (hE.lt ha)⟩, hst.size, hst.os, hst.tape, hst.output, rfl, rfl⟩, flat_rel hv hfl⟩
   ·split at hh
    ·-- what was made goes, trees come out
     simp only [Option.bind_eq_some_iff] at hh
     obtain ⟨⟨r1, H1⟩, hbody, r2, hfr, hh⟩ := hh
     dsimp only at hbody hfr hh
     split at hh
     case isFalse => cases hh
     rename_i hto
     simp only [Option.some.injEq, Prod.mk.injEq] at hh
     obtain ⟨rfl, rfl⟩ := hh
     refine (aBody_ok hF ih hok hfn hb hE hip ha hbody).mono ?_
     rintro e w' ⟨v', E1, rfl, rfl, rfl, hE1, hst, hv⟩
     have hfz : FrzOk E1 (E1.cut E.H.length) E.H.length := ⟨rfl, Keep.cut _ _, fun b hb ha => ⟨hE1.lt ha, fun ⟨b2, _, h2, h3⟩ => by
      obtain ⟨h4, h5⟩ := alive_cut h2
      have := hE1.inj b2 b h5 ha h3
      omega⟩⟩
     obtain ⟨hr2, _, _⟩ := (frP_ok hE1 hfz _).1 _ _ _ hv hfr
     exact ⟨v', E1.cut E.H.length, rfl, rfl, rfl, hE.cut hE1 hto, hst.cut, hr2⟩
    ·simp only [Option.map_eq_some_iff, Prod.mk.injEq] at hh
     obtain ⟨⟨r1, H1⟩, hbody, rfl, rfl⟩ := hh
     exact aBody_ok hF ih hok hfn hb hE hip ha hbody
end
end Go.Abs

