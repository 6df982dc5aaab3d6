import Derived.Test.YtnipaiklandliaaGreatDoorAbsDef
set_option linter.unusedSimpArgs false
namespace Go.Abs
open Go
def Ev (p : Nat → Prop) : Prop := ∃ n0, ∀ n, n0 ≤ n → p n
theorem Ev.all {p : Nat → Prop} (h : ∀ n, p n) : Ev p := ⟨0, fun n _ => h n⟩
theorem Ev.const {p : Prop} (h : p) : Ev fun _ => p := ⟨0, fun _ _ => h⟩
theorem Ev.and {p q : Nat → Prop} (hp : Ev p) (hq : Ev q) : Ev fun n => p n ∧ q n := by
 obtain ⟨a, ha⟩ := hp
 obtain ⟨b, hb⟩ := hq
 exact ⟨a + b, fun n hn => ⟨ha n (by omega), hb n (by omega)⟩⟩
theorem Ev.mono {p q : Nat → Prop} (hp : Ev p) (h : ∀ n, p n → q n) : Ev q := by
 obtain ⟨a, ha⟩ := hp
 exact ⟨a, fun n hn => h n (ha n hn)⟩
theorem Ev.from {p : Nat → Prop} (m : Nat) (h : ∀ n, m ≤ n → p n) : Ev p := ⟨m, h⟩
theorem Ev.list {α : Type} {p : Nat → α → Bool} : ∀ {l : List α}, (∀ x ∈ l, Ev fun n => p n x = true) → Ev fun n => l.all (p n) = true
 | [], _ => .all fun _ => rfl
 | x :: r, h => by
  refine ((h x (by simp)).and (Ev.list (l := r) fun y hy => h y (by simp [hy]))).mono fun n hn => ?_
  simp only [List.all_cons, hn.1, hn.2, Bool.and_self]
open Classical in
noncomputable def aLim (C : Cfg) : CallT := fun prot f args H => if h : ∃ r, Ev fun n => aCall C n prot f args H = some r then some (Classical.choose h) else none
theorem aLim_ev {C : Cfg} {prot : Nat} {f : FuncId} {args : List AV} {H : Heap} {r : AV × Option Heap} (h : aLim C prot f args H = some r) : Ev fun n => aCall C n prot f args H = some r := by
 unfold aLim at h
 split at h
 ·rename_i hx
  cases h
  exact Classical.choose_spec hx
 ·cases h
theorem aLim_of {C : Cfg} {prot : Nat} {f : FuncId} {args : List AV} {H : Heap} {r : AV × Option Heap} (h : Ev fun n => aCall C n prot f args H = some r) : aLim C prot f args H = some r := by
 have hx : ∃ r, Ev fun n => aCall C n prot f args H = some r := ⟨r, h⟩
 unfold aLim
 rw [dif_pos hx]
 obtain ⟨n, hn⟩ := h.and (Classical.choose_spec hx)
 obtain ⟨h1, h2⟩ := hn n (Nat.le_refl _)
 rw [h1] at h2
 exact h2.symm
theorem iter_mono {body : RunT} : ∀ {n : Nat} {fr : List AV} {H : Heap} {r : AExit × List AV × Heap}, iter n body fr H = some r → ∀ m, n ≤ m → iter m body fr H = some r
 | 0, _, _, _, h, _, _ => by simp [iter] at h
 | n + 1, fr, H, r, h, m, hm => by
  obtain ⟨m, rfl⟩ : ∃ k, m = k + 1 := ⟨m - 1, by omega⟩
  simp only [iter, Option.bind_eq_some_iff] at h ⊢
  obtain ⟨⟨e, fr', H'⟩, h1, h2⟩ := h
  refine ⟨_, h1, ?_⟩
  cases e with
  | normal => exact iter_mono h2 m (by omega)
  | exit id => exact h2
  | ret => exact h2
open Classical in
noncomputable def loopL (body : RunT) : RunT := fun fr H => if h : ∃ r n, iter n body fr H = some r then some (Classical.choose h) else none
theorem loopL_iter {body : RunT} {fr : List AV} {H : Heap} {r : AExit × List AV × Heap} (h : loopL body fr H = some r) : ∃ n, iter n body fr H = some r := by
 unfold loopL at h
 split at h
 ·rename_i hx
  cases h
  exact Classical.choose_spec hx
 ·cases h
theorem loopL_of {body : RunT} {fr : List AV} {H : Heap} {r : AExit × List AV × Heap} {n : Nat} (h : iter n body fr H = some r) : loopL body fr H = some r := by
 have hx : ∃ r n, iter n body fr H = some r := ⟨r, n, h⟩
 unfold loopL
 rw [dif_pos hx]
 obtain ⟨m, hm⟩ := Classical.choose_spec hx
 have h1 := iter_mono h (n + m) (by omega)
 rw [iter_mono hm (n + m) (by omega)] at h1
 exact h1
noncomputable def contL (body : RunT) : AExit × List AV × Heap → Option (AExit × List AV × Heap)
 | (.normal, fr', H') => loopL body fr' H'
 | r => some r
theorem loopL_eq (body : RunT) (fr : List AV) (H : Heap) : loopL body fr H = (body fr H).bind (contL body) := by
 cases hb : body fr H with
 | none =>
  simp only [Option.bind_none]
  cases hl : loopL body fr H with
  | none => rfl
  | some r =>
   obtain ⟨n, hn⟩ := loopL_iter hl
   cases n with
   | zero => simp [iter] at hn
   | succ n => simp [iter, hb] at hn
 | some x =>
  obtain ⟨e, fr', H'⟩ := x
  simp only [Option.bind_some]
  cases e with
  | normal =>
   simp only [contL]
   cases hl : loopL body fr' H' with
   | some r =>
    obtain ⟨n, hn⟩ := loopL_iter hl
    exact loopL_of (n := n + 1) (by simp [iter, hb, hn])
   | none =>
    cases hl2 : loopL body fr H with
    | none => rfl
    | some r =>
     obtain ⟨n, hn⟩ := loopL_iter hl2
     cases n with
     | zero => simp [iter] at hn
     | succ n =>
      simp only [iter, hb, Option.bind_some] at hn
      rw [loopL_of hn] at hl; cases hl
  | exit id => exact loopL_of (n := 1) (by simp [iter, hb])
  | ret => exact loopL_of (n := 1) (by simp [iter, hb])
def Conv (cs : Nat → CallT) (c : CallT) : Prop := ∀ prot f args H r, c prot f args H = some r → Ev fun n => cs n prot f args H = some r
theorem aLim_conv (C : Cfg) : Conv (aCall C) (aLim C) := fun _ _ _ _ _ h => aLim_ev h
section
variable {P : Program} {cs : Nat → CallT} {c : CallT} {prot : Nat}
theorem aOp_conv (hc : Conv cs c) {fr : List AV} {o : Oper} {H : Heap} {r : AV × Option Heap} (h : aOp P c prot fr o H = some r) : Ev fun n => aOp P (cs n) prot fr o H = some r := by
 cases hop : o.op with
 | call k =>
  simp only [aOp, hop, Option.bind_eq_some_iff] at h ⊢
  obtain ⟨args, ha, h⟩ := h
  cases hk : k.callee with
  | value f =>
   simp only [hk, Option.bind_eq_some_iff] at h ⊢
   obtain ⟨v, hv, h⟩ := h
   cases v with
   | func g first caps => exact (hc _ _ _ _ _ h).mono fun n hn => ⟨args, ha, _, hv, hn⟩
   | _ => cases h
  | builtin b =>
   simp only [hk] at h
   exact ⟨0, fun _ _ => ⟨args, ha, h⟩⟩
  | invoke rc name =>
   simp only [hk, Option.bind_eq_some_iff] at h ⊢
   obtain ⟨v, hv, h⟩ := h
   cases v with
   | iface t v =>
    simp only [Option.bind_eq_some_iff] at h
    obtain ⟨⟨f, r0⟩, hm, h⟩ := h
    exact (hc _ _ _ _ _ h).mono fun n hn => ⟨args, ha, _, hv, by simp only [hm, Option.bind_some]; exact hn⟩
   | _ => cases h
 | makeFunc g first caps => cases g <;> simp only [aOp, hop] at h ⊢ <;> exact .const h
 | makeMap t n => cases n <;> simp only [aOp, hop] at h ⊢ <;> exact .const h
 | next x b => cases b <;> simp only [aOp, hop] at h ⊢ <;> exact .const h
 | _ => simp only [aOp, hop] at h ⊢; exact .const h
theorem aSeq_conv (hc : Conv cs c) {ops : Array Oper} : ∀ {l : List Oper} {fr : List AV} {H : Heap} {r : List AV × Heap}, aSeq P c prot ops l fr H = some r → Ev fun n => aSeq P (cs n) prot ops l fr H = some r
 | [], _, _, _, h => .const h
 | o :: l, fr, H, r, h => by
  simp only [aSeq] at h ⊢
  split at h
  ·rename_i hw
   simp only [hw, if_true, Option.bind_eq_some_iff] at h ⊢
   obtain ⟨⟨v, e⟩, h1, h2⟩ := h
   exact ((aOp_conv hc h1).and (aSeq_conv hc h2)).mono fun n hn => ⟨_, hn.1, hn.2⟩
  ·rename_i hw
   simp only [hw]
   exact aSeq_conv hc h
theorem aTrace_conv (hc : Conv cs c) {ops : Array Oper} : ∀ {l : List Oper} {i : Nat} {fr : List AV} {H : Heap} {r : List Rec × List AV × Heap}, aTrace P c prot ops i l fr H = some r → Ev fun n => aTrace P (cs n) prot ops i l fr H = some r
 | [], _, _, _, _, h => .const h
 | o :: l, i, fr, H, r, h => by
  simp only [aTrace] at h ⊢
  split at h
  ·rename_i hw
   simp only [hw, if_true, Option.bind_eq_some_iff, Option.map_eq_some_iff] at h ⊢
   obtain ⟨⟨v, e⟩, h1, ⟨recs, fr', H'⟩, h2, h3⟩ := h
   exact ((aOp_conv hc h1).and (aTrace_conv hc h2)).mono fun n hn => ⟨_, hn.1, _, hn.2, h3⟩
  ·rename_i hw
   simp only [Option.map_eq_some_iff] at h
   obtain ⟨⟨recs, fr', H'⟩, h2, h3⟩ := h
   refine (aTrace_conv hc h2).mono fun n hn => ?_
   rw [if_neg hw, hn]
   exact congrArg some h3
theorem sameAt_conv (hc : Conv cs c) {r : Rec} {K : Heap} (h : sameAt P c prot r K = true) : Ev fun n => sameAt P (cs n) prot r K = true := by
 unfold sameAt at h ⊢
 split at h
 ·rename_i v hv
  refine (aOp_conv hc hv).mono fun n hn => ?_
  rw [hn]
  exact h
 ·cases h
theorem drawOk_conv (hc : Conv cs c) {bef : List Nat} {l : List Rec} {H : Heap} (h : drawOk P c prot bef l H = true) : Ev fun n => drawOk P (cs n) prot bef l H = true := by
 unfold drawOk at h ⊢
 simp only [Bool.and_eq_true] at h ⊢
 have h2 := List.all_eq_true.1 h.2
 refine (Ev.list (p := fun n r => _) fun r hr => ?_).mono fun n hn => ⟨h.1, hn⟩
 have h3 := h2 r hr
 simp only [Bool.or_eq_true] at h3 ⊢
 rcases h3 with h3 | h3
 ·exact ⟨0, fun _ _ => .inl h3⟩
 ·have h4 := List.all_eq_true.1 h3
  refine (Ev.list (p := fun n k => _) fun k hk => ?_).mono fun n hn => .inr hn
  have h5 := h4 k hk
  simp only [Bool.or_eq_true] at h5 ⊢
  rcases h5 with h5 | h5
  ·exact ⟨0, fun _ _ => .inl h5⟩
  ·exact (sameAt_conv hc h5).mono fun n hn => .inr hn
theorem KDl_conv (hc : Conv cs c) : ∀ {l : List (Rec × Bool)} {H K : Heap}, KDl P c prot l H = some K → Ev fun n => KDl P (cs n) prot l H = some K
 | [], _, _, h => .const h
 | (e, b) :: l, H, K, h => by
  simp only [KDl] at h ⊢
  cases b with
  | false => simp only [Bool.false_eq_true, if_false] at h ⊢; exact KDl_conv hc h
  | true =>
   simp only [if_true, Option.bind_eq_some_iff] at h ⊢
   obtain ⟨⟨v, x⟩, h1, K1, h2, h3⟩ := h
   exact ((aOp_conv hc h1).and (KDl_conv hc h3)).mono fun n hn => ⟨(v, x), hn.1, K1, h2, hn.2⟩
theorem drawOk2_conv (hc : Conv cs c) {bef : List Nat} {l : List Rec} {H H' : Heap} (h : drawOk2 P c prot bef l H H' = true) : Ev fun n => drawOk2 P (cs n) prot bef l H H' = true := by
 unfold drawOk2 at h ⊢
 simp only [Bool.and_eq_true] at h ⊢
 obtain ⟨h1, h2⟩ := h
 have h1 := List.all_eq_true.1 h1
 refine Ev.and (Ev.list (p := fun n D => _) fun D hD => ?_) ?_
 ·have h3 := h1 D hD
  split at h3
  ·cases h3
  ·rename_i K hK
   simp only [Bool.and_eq_true] at h3
   obtain ⟨h4, h5⟩ := h3
   have h4 := List.all_eq_true.1 h4
   have h5 := List.all_eq_true.1 h5
   have e1 : Ev fun n => ((l.filter (·.eff.isSome)).zip D).all (fun x => x.2 || !compatD bef ((l.filter (·.eff.isSome)).zip D) x.1 || match aOp P (cs n) prot x.1.fr x.1.o K, KDl P (cs n) prot (addD ((l.filter (·.eff.isSome)).zip D) x.1.i) H with
    | some (v, some K1), some K2 => AV.beq v x.1.v && beqHp K1 K2
    | _, _ => false) = true := by
    refine Ev.list (p := fun n x => _) fun x hx => ?_
    have h6 := h4 x hx
    simp only [Bool.or_eq_true] at h6 ⊢
    rcases h6 with h6 | h6
    ·exact ⟨0, fun _ _ => .inl h6⟩
    ·split at h6
     ·rename_i v K1 K2 ha hk
      exact ((aOp_conv hc ha).and (KDl_conv hc hk)).mono fun n hn => .inr (by rw [hn.1, hn.2]; exact h6)
     ·cases h6
   have e2 : Ev fun n => l.all (fun r => r.eff.isSome || !r.wanted || !compatD bef ((l.filter (·.eff.isSome)).zip D) r || sameAt P (cs n) prot r K) = true := by
    refine Ev.list (p := fun n r => _) fun r hr => ?_
    have h6 := h5 r hr
    simp only [Bool.or_eq_true] at h6 ⊢
    rcases h6 with h6 | h6
    ·exact ⟨0, fun _ _ => .inl h6⟩
    ·exact (sameAt_conv hc h6).mono fun n hn => .inr hn
   refine ((KDl_conv hc hK).and (e1.and e2)).mono fun n hn => ?_
   rw [hn.1]
   simp only [Bool.and_eq_true]
   exact hn.2
 ·split at h2
  ·rename_i K hK
   exact (KDl_conv hc hK).mono fun n hn => by rw [hn]; exact h2
  ·cases h2
theorem aCode_conv (hc : Conv cs c) : ∀ (k : Code) {fr : List AV} {H : Heap} {r : AExit × List AV × Heap}, aCode P c loopL prot k fr H = some r → Ev fun n => aCode P (cs n) (iter n) prot k fr H = some r := by
 intro k
 induction k with
 | skip => intro fr H r h; exact .const h
 | exit id => intro fr H r h; exact .const h
 | ret => intro fr H r h; exact .const h
 | region id ops draw =>
  intro fr H r h
  cases draw with
  | true =>
   simp only [aCode, if_true, Option.bind_eq_some_iff] at h ⊢
   obtain ⟨⟨recs, fr', H'⟩, h1, h2⟩ := h
   dsimp only at h2
   split at h2
   ·rename_i hd
    rcases Bool.or_eq_true_iff.1 hd with hd | hd
    ·exact ((aTrace_conv hc h1).and (drawOk_conv hc hd)).mono fun n hn => ⟨_, hn.1, by simp only [hn.2, Bool.true_or, if_true]; exact h2⟩
    ·exact ((aTrace_conv hc h1).and (drawOk2_conv hc hd)).mono fun n hn => ⟨_, hn.1, by simp only [hn.2, Bool.or_true, if_true]; exact h2⟩
   ·cases h2
  | false =>
   simp only [aCode, Bool.false_eq_true, if_false, Option.map_eq_some_iff] at h ⊢
   obtain ⟨x, h1, h2⟩ := h
   exact (aSeq_conv hc h1).mono fun n hn => ⟨x, hn, h2⟩
 | seq a b iha ihb =>
  intro fr H r h
  simp only [aCode, Option.bind_eq_some_iff] at h ⊢
  obtain ⟨⟨e, fr', H'⟩, h1, h2⟩ := h
  cases e with
  | normal => exact ((iha h1).and (ihb h2)).mono fun n hn => ⟨_, hn.1, hn.2⟩
  | exit id => exact (iha h1).mono fun n hn => ⟨_, hn, h2⟩
  | ret => exact (iha h1).mono fun n hn => ⟨_, hn, h2⟩
 | cond x a b iha ihb =>
  intro fr H r h
  simp only [aCode, Option.bind_eq_some_iff] at h ⊢
  obtain ⟨v, h1, h2⟩ := h
  cases v with
  | bool t =>
   cases t with
   | true => exact (iha (by simpa using h2)).mono fun n hn => ⟨_, h1, by simpa using hn⟩
   | false => exact (ihb (by simpa using h2)).mono fun n hn => ⟨_, h1, by simpa using hn⟩
  | _ => cases h2
 | block id a iha =>
  intro fr H r h
  simp only [aCode, Option.map_eq_some_iff] at h ⊢
  obtain ⟨x, h1, h2⟩ := h
  exact (iha h1).mono fun n hn => ⟨x, hn, h2⟩
 | loop a iha =>
  intro fr H r h
  simp only [aCode] at h ⊢
  obtain ⟨m, hm⟩ := loopL_iter h
  have : ∀ m fr H r, iter m (aCode P c loopL prot a) fr H = some r → Ev fun n => ∀ k, m ≤ k → iter k (aCode P (cs n) (iter n) prot a) fr H = some r := by
   intro m
   induction m with
   | zero => intro fr H r h; simp [iter] at h
   | succ m ih =>
    intro fr H r h
    simp only [iter, Option.bind_eq_some_iff] at h
    obtain ⟨⟨e, fr', H'⟩, h1, h2⟩ := h
    cases e with
    | normal =>
     refine ((iha h1).and (ih _ _ _ h2)).mono fun n hn k hk => ?_
     obtain ⟨k, rfl⟩ : ∃ j, k = j + 1 := ⟨k - 1, by omega⟩
     simp only [iter, hn.1, Option.bind_some]
     exact hn.2 k (by omega)
    | exit id =>
     refine (iha h1).mono fun n hn k hk => ?_
     obtain ⟨k, rfl⟩ : ∃ j, k = j + 1 := ⟨k - 1, by omega⟩
     simp only [iter, hn, Option.bind_some]
     exact h2
    | ret =>
     refine (iha h1).mono fun n hn k hk => ?_
     obtain ⟨k, rfl⟩ : ∃ j, k = j + 1 := ⟨k - 1, by omega⟩
     simp only [iter, hn, Option.bind_some]
     exact h2
  obtain ⟨n0, h0⟩ := this m fr H r hm
  exact ⟨max n0 m, fun n hn => h0 n (by omega) n (by omega)⟩
 | scope a iha => intro fr H r h; exact iha h
 | label l => intro fr H r h; exact .const h
 | _ => intro fr H r h; simp [aCode] at h
end
theorem frP_mono {H : Heap} {base : Nat} : ∀ (n : Nat), (∀ v r, frP H base n v = some r → ∀ m, n ≤ m → frP H base m v = some r) ∧ (∀ l r, frL H base n l = some r → ∀ m, n ≤ m → frL H base m l = some r) := by
 intro n
 induction n with
 | zero =>
  refine ⟨fun v r h => by simp [frP] at h, fun l r h m hm => ?_⟩
  cases l with
  | nil => cases m <;> exact h
  | cons => simp [frL] at h
 | succ n ih =>
  refine ⟨fun v r h m hm => ?_, fun l r h m hm => ?_⟩
  ·obtain ⟨m, rfl⟩ : ∃ j, m = j + 1 := ⟨m - 1, by omega⟩
   cases v with
   | bs s =>
    simp only [frP] at h ⊢
    split at h
    ·rename_i hc
     simp only [hc, and_self, if_true, Option.bind_eq_some_iff, Option.map_eq_some_iff] at h ⊢
     obtain ⟨cs, h1, w, h2, x, h3, h4⟩ := h
     exact ⟨cs, h1, w, h2, x, ih.2 _ _ h3 m (by omega), h4⟩
    ·cases h
   | agg cs =>
    simp only [frP, Option.map_eq_some_iff] at h ⊢
    obtain ⟨x, h1, h2⟩ := h
    exact ⟨x, ih.2 _ _ h1 m (by omega), h2⟩
   | tup cs =>
    simp only [frP, Option.map_eq_some_iff] at h ⊢
    obtain ⟨x, h1, h2⟩ := h
    exact ⟨x, ih.2 _ _ h1 m (by omega), h2⟩
   | iface t v =>
    simp only [frP, Option.map_eq_some_iff] at h ⊢
    obtain ⟨x, h1, h2⟩ := h
    exact ⟨x, ih.1 _ _ h1 m (by omega), h2⟩
   | ptr b ver off =>
    simp only [frP] at h ⊢
    split at h
    ·rename_i hc
     simp only [hc, if_true, Option.bind_eq_some_iff, Option.map_eq_some_iff] at h ⊢
     obtain ⟨cs, h1, x, h2, h3⟩ := h
     exact ⟨cs, h1, x, ih.2 _ _ h2 m (by omega), h3⟩
    ·cases h
   | _ => exact h
  ·cases l with
   | nil => cases m <;> exact h
   | cons v l =>
    obtain ⟨m, rfl⟩ : ∃ j, m = j + 1 := ⟨m - 1, by omega⟩
    simp only [frL, Option.bind_eq_some_iff, Option.map_eq_some_iff] at h ⊢
    obtain ⟨x, h1, y, h2, h3⟩ := h
    exact ⟨x, ih.1 _ _ h1 m (by omega), y, ih.2 _ _ h2 m (by omega), h3⟩
def Frz (H : Heap) (base : Nat) (v r : AV) : Prop := ∃ n, frP H base n v = some r
def FrzL (H : Heap) (base : Nat) (v r : List AV) : Prop := ∃ n, frL H base n v = some r
theorem Frz.ev {H : Heap} {base : Nat} {v r : AV} (h : Frz H base v r) : Ev fun n => frP H base n v = some r := by
 obtain ⟨n, hn⟩ := h
 exact ⟨n, fun m hm => (frP_mono n).1 _ _ hn m hm⟩
theorem FrzL.nil {H : Heap} {base : Nat} : FrzL H base [] [] := ⟨1, rfl⟩
theorem FrzL.cons {H : Heap} {base : Nat} {v r : AV} {l m : List AV} (h : Frz H base v r) (hl : FrzL H base l m) : FrzL H base (v :: l) (r :: m) := by
 obtain ⟨a, ha⟩ := h
 obtain ⟨b, hb⟩ := hl
 refine ⟨a + b + 1, ?_⟩
 simp only [frL, (frP_mono a).1 _ _ ha (a + b) (by omega), (frP_mono b).2 _ _ hb (a + b) (by omega), Option.bind_some, Option.map_some]
theorem Frz.agg {H : Heap} {base : Nat} {l m : List AV} (h : FrzL H base l m) : Frz H base (.agg l) (.agg m) := by
 obtain ⟨a, ha⟩ := h
 exact ⟨a + 1, by simp only [frP, ha, Option.map_some]⟩
theorem Frz.tup {H : Heap} {base : Nat} {l m : List AV} (h : FrzL H base l m) : Frz H base (.tup l) (.tup m) := by
 obtain ⟨a, ha⟩ := h
 exact ⟨a + 1, by simp only [frP, ha, Option.map_some]⟩
theorem Frz.iface {H : Heap} {base t : Nat} {l m : AV} (h : Frz H base l m) : Frz H base (.iface t l) (.iface t m) := by
 obtain ⟨a, ha⟩ := h
 exact ⟨a + 1, by simp only [frP, ha, Option.map_some]⟩
def still : AV → Bool
 | .bs _ | .agg _ | .tup _ | .iface _ _ | .ptr .. | .map _ | .it _ | .func .. => false
 | _ => true
theorem Frz.still {H : Heap} {base : Nat} {v : AV} (h : still v = true) : Frz H base v v := ⟨1, by cases v <;> first | rfl | cases h⟩
theorem FrzL.still {H : Heap} {base : Nat} : ∀ {l : List AV}, (∀ v ∈ l, Abs.still v = true) → FrzL H base l l
 | [], _ => .nil
 | v :: r, h => .cons (.still (h v (by simp))) (FrzL.still fun w hw => h w (by simp [hw]))
theorem Frz.bs {H : Heap} {base : Nat} {s : BS} {cs w x : List AV} (hb : base ≤ s.b) (h0 : 0 < s.sz) (hag : (s.ag || s.sz == 1) = true) (hg : hget H s.b s.ver = some cs) (hw : win cs s.off (s.len * s.sz) = some w)
  (hx : FrzL H base w x) : Frz H base (.bs s) (.vs (chunk s.sz s.ag s.len x) (s.ex && s.cap == s.len)) := by
 obtain ⟨a, ha⟩ := hx
 exact ⟨a + 1, by simp only [frP, hb, h0, hag, hg, hw, ha, and_self, if_true, Option.bind_some, Option.map_some]⟩
theorem Frz.ptr {H : Heap} {base b ver off : Nat} {cs x : List AV} (hb : base ≤ b) (hg : hget H b ver = some cs) (hx : FrzL H base cs x) : Frz H base (.ptr b ver off) (.vptr x off) := by
 obtain ⟨a, ha⟩ := hx
 exact ⟨a + 1, by simp only [frP, hb, if_true, hg, ha, Option.bind_some, Option.map_some]⟩
inductive K where
 | seq (c : Code)
 | block (id : Nat)
 | loop (c : Code)
inductive Mode where
 | raw
 | trim (H0 : Heap)
 | pure (sn : Bool)
structure Ctx where
 C : Cfg
 prot : Nat
 res : List ResultVar
 mode : Mode
def Fin (X : Ctx) (fr : List AV) (H : Heap) (r : AV × Option Heap) : Prop := ∃ l, aResults X.C.P fr H X.res = some l ∧
 match X.mode with
 | .raw => r = (packR l, some H)
 | .trim H0 => ∃ r', Frz H H0.length (packR l) r' ∧ trimOk H0 H = true ∧ r = (r', some (H.take H0.length))
 | .pure sn => ∃ r', Frz H X.prot (packR l) r' ∧ (sn = true → flat r' = true) ∧ r = (r', none)
noncomputable def codeL (X : Ctx) (c : Code) : RunT := aCode X.C.P (aLim X.C) loopL X.prot c
def U (X : Ctx) : List K → AExit → List AV → Heap → AV × Option Heap → Prop
 | [], .exit _, _, _, _ => False
 | [], _, fr, H, r => Fin X fr H r
 | .seq c :: κ, .normal, fr, H, r => ∃ e fr' H', codeL X c fr H = some (e, fr', H') ∧ U X κ e fr' H' r
 | .seq _ :: κ, e, fr, H, r => U X κ e fr H r
 | .block id :: κ, e, fr, H, r => U X κ (if e = .exit id then .normal else e) fr H r
 | .loop c :: κ, .normal, fr, H, r => ∃ e fr' H', loopL (codeL X c) fr H = some (e, fr', H') ∧ U X κ e fr' H' r
 | .loop _ :: κ, e, fr, H, r => U X κ e fr H r
def R (X : Ctx) (c : Code) (κ : List K) (fr : List AV) (H : Heap) (r : AV × Option Heap) : Prop := ∃ e fr' H', codeL X c fr H = some (e, fr', H') ∧ U X κ e fr' H' r
def S (X : Ctx) (ops : Array Oper) (l : List Oper) (κ : List K) (fr : List AV) (H : Heap) (r : AV × Option Heap) : Prop :=
 ∃ fr' H', aSeq X.C.P (aLim X.C) X.prot ops l fr H = some (fr', H') ∧ U X κ .normal fr' H' r
def S1 (X : Ctx) (ops : Array Oper) (l : List Oper) (κ : List K) (fr : List AV) (H : Heap) (d : Option Tmp) (o : Option (AV × Option Heap)) (r : AV × Option Heap) : Prop :=
 ∃ v h, o = some (v, h) ∧ S X ops l κ (fput fr d v) (h.getD H) r
def RC (X : Ctx) (v : Option AV) (a b : Code) (κ : List K) (fr : List AV) (H : Heap) (r : AV × Option Heap) : Prop :=
 ∃ t, v = some (.bool t) ∧ R X (if t then a else b) κ fr H r
section
variable {X : Ctx} {κ : List K} {fr : List AV} {H : Heap} {r : AV × Option Heap}
theorem R_seq (a b : Code) : R X (.seq a b) κ fr H r ↔ R X a (.seq b :: κ) fr H r := by
 unfold R codeL
 simp only [aCode, Option.bind_eq_some_iff]
 constructor
 ·rintro ⟨e, fr', H', ⟨⟨e1, f1, H1⟩, h1, h2⟩, h3⟩
  refine ⟨e1, f1, H1, h1, ?_⟩
  cases e1 with
  | normal => exact ⟨e, fr', H', h2, h3⟩
  | exit id => cases h2; exact h3
  | ret => cases h2; exact h3
 ·rintro ⟨e1, f1, H1, h1, h2⟩
  cases e1 with
  | normal =>
   obtain ⟨e, fr', H', h2, h3⟩ := h2
   exact ⟨e, fr', H', ⟨_, h1, h2⟩, h3⟩
  | exit id => exact ⟨_, _, _, ⟨_, h1, rfl⟩, h2⟩
  | ret => exact ⟨_, _, _, ⟨_, h1, rfl⟩, h2⟩
theorem R_block (id : Nat) (c : Code) : R X (.block id c) κ fr H r ↔ R X c (.block id :: κ) fr H r := by
 unfold R codeL
 simp only [aCode, Option.map_eq_some_iff, Prod.mk.injEq]
 constructor
 ·rintro ⟨e, fr', H', ⟨⟨e1, f1, H1⟩, h1, rfl, rfl, rfl⟩, h3⟩
  exact ⟨e1, f1, H1, h1, by cases e1 <;> exact h3⟩
 ·rintro ⟨e1, f1, H1, h1, h2⟩
  exact ⟨_, f1, H1, ⟨_, h1, rfl, rfl, rfl⟩, by cases e1 <;> exact h2⟩
theorem R_loop (c : Code) : R X (.loop c) κ fr H r ↔ R X c (.loop c :: κ) fr H r := by
 have e : codeL X (.loop c) = loopL (codeL X c) := rfl
 unfold R
 rw [e]
 constructor
 ·rintro ⟨e1, f1, H1, h1, h2⟩
  rw [loopL_eq] at h1
  simp only [Option.bind_eq_some_iff] at h1
  obtain ⟨⟨e2, f2, H2⟩, h3, h4⟩ := h1
  refine ⟨e2, f2, H2, h3, ?_⟩
  cases e2 with
  | normal => exact ⟨e1, f1, H1, h4, h2⟩
  | exit id => cases h4; exact h2
  | ret => cases h4; exact h2
 ·rintro ⟨e2, f2, H2, h3, h4⟩
  rw [loopL_eq, h3]
  simp only [Option.bind_some]
  cases e2 with
  | normal =>
   obtain ⟨e1, f1, H1, h5, h6⟩ := h4
   exact ⟨e1, f1, H1, h5, h6⟩
  | exit id => exact ⟨_, _, _, rfl, h4⟩
  | ret => exact ⟨_, _, _, rfl, h4⟩
theorem R_scope (c : Code) : R X (.scope c) κ fr H r ↔ R X c κ fr H r := Iff.rfl
theorem R_label (l : Nat) : R X (.label l) κ fr H r ↔ U X κ .normal fr H r := by
 unfold R codeL
 constructor
 ·rintro ⟨e, f, h, h1, h2⟩; cases h1; exact h2
 ·intro h; exact ⟨_, _, _, rfl, h⟩
theorem R_skip : R X .skip κ fr H r ↔ U X κ .normal fr H r := by
 unfold R codeL
 constructor
 ·rintro ⟨e, f, h, h1, h2⟩; cases h1; exact h2
 ·intro h; exact ⟨_, _, _, rfl, h⟩
theorem R_exit (id : Nat) : R X (.exit id) κ fr H r ↔ U X κ (.exit id) fr H r := by
 unfold R codeL
 constructor
 ·rintro ⟨e, f, h, h1, h2⟩; cases h1; exact h2
 ·intro h; exact ⟨_, _, _, rfl, h⟩
theorem R_ret : R X .ret κ fr H r ↔ U X κ .ret fr H r := by
 unfold R codeL
 constructor
 ·rintro ⟨e, f, h, h1, h2⟩; cases h1; exact h2
 ·intro h; exact ⟨_, _, _, rfl, h⟩
theorem R_cond (c : Operand) (a b : Code) : R X (.cond c a b) κ fr H r ↔ RC X (aEval fr c) a b κ fr H r := by
 unfold RC R codeL
 simp only [aCode, Option.bind_eq_some_iff]
 constructor
 ·rintro ⟨e, fr', H', ⟨v, h1, h2⟩, h3⟩
  cases v with
  | bool t => exact ⟨t, h1, e, fr', H', by cases t <;> simpa using h2, h3⟩
  | _ => cases h2
 ·rintro ⟨t, h1, e, fr', H', h2, h3⟩
  exact ⟨e, fr', H', ⟨_, h1, by cases t <;> simpa using h2⟩, h3⟩
theorem R_region (id : Nat) (ops : Array Oper) : R X (.region id ops false) κ fr H r ↔ S X ops ops.toList κ fr H r := by
 unfold R codeL S
 simp only [aCode, Bool.false_eq_true, if_false, Option.map_eq_some_iff]
 constructor
 ·rintro ⟨e, fr', H', ⟨⟨f1, H1⟩, h1, h2⟩, h3⟩
  cases h2
  exact ⟨f1, H1, h1, h3⟩
 ·rintro ⟨f1, H1, h1, h2⟩
  exact ⟨_, _, _, ⟨_, h1, rfl⟩, h2⟩
theorem U_seq (c : Code) : U X (.seq c :: κ) .normal fr H r ↔ R X c κ fr H r := Iff.rfl
theorem U_loop (c : Code) : U X (.loop c :: κ) .normal fr H r ↔ R X c (.loop c :: κ) fr H r := R_loop c
theorem U_block (id : Nat) : U X (.block id :: κ) .normal fr H r ↔ U X κ .normal fr H r := Iff.rfl
theorem U_seq_exit (c : Code) (j : Nat) : U X (.seq c :: κ) (.exit j) fr H r ↔ U X κ (.exit j) fr H r := Iff.rfl
theorem U_loop_exit (c : Code) (j : Nat) : U X (.loop c :: κ) (.exit j) fr H r ↔ U X κ (.exit j) fr H r := Iff.rfl
theorem U_block_exit (id j : Nat) : U X (.block id :: κ) (.exit j) fr H r ↔ U X κ (if j = id then .normal else .exit j) fr H r := by
 simp only [U, AExit.exit.injEq]
theorem U_seq_ret (c : Code) : U X (.seq c :: κ) .ret fr H r ↔ U X κ .ret fr H r := Iff.rfl
theorem U_loop_ret (c : Code) : U X (.loop c :: κ) .ret fr H r ↔ U X κ .ret fr H r := Iff.rfl
theorem U_block_ret (id : Nat) : U X (.block id :: κ) .ret fr H r ↔ U X κ .ret fr H r := by simp [U]
theorem U_end : U X [] .normal fr H r ↔ Fin X fr H r := Iff.rfl
theorem U_end_ret : U X [] .ret fr H r ↔ Fin X fr H r := Iff.rfl
theorem RC_true (a b : Code) : RC X (some (.bool true)) a b κ fr H r ↔ R X a κ fr H r := by
 unfold RC
 constructor
 ·rintro ⟨t, h, h2⟩; cases h; exact h2
 ·intro h; exact ⟨true, rfl, h⟩
theorem RC_false (a b : Code) : RC X (some (.bool false)) a b κ fr H r ↔ R X b κ fr H r := by
 unfold RC
 constructor
 ·rintro ⟨t, h, h2⟩; cases h; exact h2
 ·intro h; exact ⟨false, rfl, h⟩
theorem RC_split {t : Bool} {a b : Code} (h1 : t = true → R X a κ fr H r) (h2 : t = false → R X b κ fr H r) : RC X (some (.bool t)) a b κ fr H r := by
 cases t with
 | true => exact (RC_true a b).2 (h1 rfl)
 | false => exact (RC_false a b).2 (h2 rfl)
theorem S_nil (ops : Array Oper) : S X ops [] κ fr H r ↔ U X κ .normal fr H r := by
 unfold S
 simp only [aSeq, Option.some.injEq, Prod.mk.injEq]
 constructor
 ·rintro ⟨_, _, ⟨rfl, rfl⟩, h⟩; exact h
 ·intro h; exact ⟨_, _, ⟨rfl, rfl⟩, h⟩
theorem S_cons (ops : Array Oper) (o : Oper) (l : List Oper) : S X ops (o :: l) κ fr H r ↔ if aWanted ops fr o then S1 X ops l κ fr H o.dst (aOp X.C.P (aLim X.C) X.prot fr o H) r else S X ops l κ (fput fr o.dst (.tup [])) H r := by
 unfold S1 S
 simp only [aSeq]
 by_cases hw : aWanted ops fr o = true
 ·simp only [hw, if_true, Option.bind_eq_some_iff]
  constructor
  ·rintro ⟨f1, H1, ⟨⟨v, h⟩, h1, h2⟩, h3⟩; exact ⟨v, h, h1, f1, H1, h2, h3⟩
  ·rintro ⟨v, h, h1, f1, H1, h2, h3⟩; exact ⟨f1, H1, ⟨_, h1, h2⟩, h3⟩
 ·simp only [hw]
  exact Iff.rfl
theorem S1_none (ops : Array Oper) (l : List Oper) (d : Option Tmp) (v : AV) : S1 X ops l κ fr H d (some (v, none)) r ↔ S X ops l κ (fput fr d v) H r := by
 unfold S1
 constructor
 ·rintro ⟨_, _, h, h2⟩; cases h; exact h2
 ·intro h; exact ⟨_, _, rfl, h⟩
theorem S1_some (ops : Array Oper) (l : List Oper) (d : Option Tmp) (v : AV) (H' : Heap) : S1 X ops l κ fr H d (some (v, some H')) r ↔ S X ops l κ (fput fr d v) H' r := by
 unfold S1
 constructor
 ·rintro ⟨_, _, h, h2⟩; cases h; exact h2
 ·intro h; exact ⟨_, _, rfl, h⟩
end
theorem fget_same {fr : List AV} {d : Nat} {v : AV} (h : d < fr.length) : fget (fput fr (some d) v) d = v := by
 simp [fget, fput, h]
theorem fget_ne {fr : List AV} {t d : Nat} {v : AV} (h : t ≠ d) : fget (fput fr (some d) v) t = fget fr t := by
 simp [fget, fput, Ne.symm h]
theorem fput_none (fr : List AV) (v : AV) : fput fr none v = fr := rfl
theorem fput_len {fr : List AV} {d : Option Nat} {v : AV} : (fput fr d v).length = fr.length := by
 cases d <;> simp [fput]
theorem aEval_tmp (fr : List AV) (t : Nat) : aEval fr (.tmp t) = some (fget fr t) := rfl
theorem aEval_const (fr : List AV) (v : Value) : aEval fr (.const v) = ofV v := rfl
theorem aEval_func (fr : List AV) (f : FuncId) : aEval fr (.func f) = some (.func f [] []) := rfl
def Has (fr : List AV) : Nat → List AV → Prop
 | _, [] => True
 | i, a :: r => fget fr i = a ∧ Has fr (i + 1) r
theorem has_append (l : List AV) (m : List AV) : ∀ (p : List AV), Has (p ++ l ++ m) p.length l := by
 induction l with
 | nil => intro p; trivial
 | cons a r ih =>
  intro p
  refine ⟨by simp [fget], ?_⟩
  have := ih (p ++ [a])
  simpa using this
theorem entered {l : List AV} {n : Nat} (h : l.length ≤ n) {Q : List AV → Prop} (hq : ∀ fr, fr.length = n → Has fr 0 l → Q fr) : Q (l ++ List.replicate (n - l.length) (.tup [])) :=
 hq _ (by simp; omega) (by simpa using has_append l (List.replicate (n - l.length) (.tup [])) [])
theorem lim_pure {C : Cfg} {prot : Nat} {f : FuncId} {args args' : List AV} {sn : Bool} {H : Heap} {fn : Func} {c : Code} {r : AV × Option Heap} (hok : C.ok f = true) (hp : C.pure f = true) (hfn : C.P.funcs[f]? = some fn) (hb : fn.body = some c)
  (hpr : prot ≤ H.length) (hs : snap H args = some (args', sn)) (hl : args'.length ≤ fn.ntmps)
  (h : ∀ fr, fr.length = fn.ntmps → Has fr 0 args' → R ⟨C, H.length, fn.results.toList, .pure sn⟩ c [] fr H r) : aLim C prot f args H = some r := by
 have h := entered (Q := fun fr => R ⟨C, H.length, fn.results.toList, .pure sn⟩ c [] fr H r) hl h
 obtain ⟨e, fr', H', h1, h2⟩ := h
 have h1' := aCode_conv (aLim_conv C) _ h1
 have hfin : Fin ⟨C, H.length, fn.results.toList, .pure sn⟩ fr' H' r ∧ ∀ id, e ≠ .exit id := by
  cases e with
  | normal => exact ⟨h2, fun _ h => by cases h⟩
  | ret => exact ⟨h2, fun _ h => by cases h⟩
  | exit id => exact h2.elim
 obtain ⟨⟨l, hr, r', hfz, hfl, rfl⟩, hex⟩ := hfin
 refine aLim_of ?_
 obtain ⟨n0, h0⟩ := h1'.and hfz.ev
 refine ⟨n0 + 1, fun n hn => ?_⟩
 obtain ⟨n, rfl⟩ : ∃ j, n = j + 1 := ⟨n - 1, by omega⟩
 obtain ⟨h3, h4⟩ := h0 n (by omega)
 have e2 : sn = true → flat r' = true := hfl
 cases e with
 | exit id => exact absurd rfl (hex id)
 | normal =>
  simp only [aCall, hok, Bool.true_eq_false, if_false, hfn, hb, hp, if_true, hpr, hs, Option.bind_some, aBody, h3, hr, Option.map_some, h4]
  cases sn with
  | true => simp only [if_true, e2 rfl]
  | false => rfl
 | ret =>
  simp only [aCall, hok, Bool.true_eq_false, if_false, hfn, hb, hp, if_true, hpr, hs, Option.bind_some, aBody, h3, hr, Option.map_some, h4]
  cases sn with
  | true => simp only [if_true, e2 rfl]
  | false => rfl
theorem lim_raw {C : Cfg} {prot : Nat} {f : FuncId} {args : List AV} {H : Heap} {fn : Func} {c : Code} {r : AV × Option Heap} (hok : C.ok f = true) (hp : C.pure f = false) (hsh : C.shut f = false) (htr : C.trim f = false) (hfn : C.P.funcs[f]? = some fn) (hb : fn.body = some c)
  (hl : args.length ≤ fn.ntmps)
  (h : ∀ fr, fr.length = fn.ntmps → Has fr 0 args → R ⟨C, prot, fn.results.toList, .raw⟩ c [] fr H r) : aLim C prot f args H = some r := by
 have h := entered (Q := fun fr => R ⟨C, prot, fn.results.toList, .raw⟩ c [] fr H r) hl h
 obtain ⟨e, fr', H', h1, h2⟩ := h
 have h1' := aCode_conv (aLim_conv C) _ h1
 have hfin : Fin ⟨C, prot, fn.results.toList, .raw⟩ fr' H' r ∧ ∀ id, e ≠ .exit id := by
  cases e with
  | normal => exact ⟨h2, fun _ h => by cases h⟩
  | ret => exact ⟨h2, fun _ h => by cases h⟩
  | exit id => exact h2.elim
 obtain ⟨⟨l, hr, rfl⟩, hex⟩ := hfin
 refine aLim_of ?_
 obtain ⟨n0, h0⟩ := h1'
 refine ⟨n0 + 1, fun n hn => ?_⟩
 obtain ⟨n, rfl⟩ : ∃ j, n = j + 1 := ⟨n - 1, by omega⟩
 have h3 := h0 n (by omega)
 cases e with
 | exit id => exact absurd rfl (hex id)
 | normal => simp only [aCall, hok, Bool.true_eq_false, if_false, hfn, hb, hp, hsh, htr, Bool.false_eq_true, Option.bind_some, aBody, h3, hr, Option.map_some]
 | ret => simp only [aCall, hok, Bool.true_eq_false, if_false, hfn, hb, hp, hsh, htr, Bool.false_eq_true, Option.bind_some, aBody, h3, hr, Option.map_some]
theorem lim_trim {C : Cfg} {prot : Nat} {f : FuncId} {args : List AV} {H : Heap} {fn : Func} {c : Code} {r : AV × Option Heap} (hok : C.ok f = true) (hp : C.pure f = false) (hsh : C.shut f = false) (htr : C.trim f = true) (hfn : C.P.funcs[f]? = some fn) (hb : fn.body = some c)
  (hl : args.length ≤ fn.ntmps)
  (h : ∀ fr, fr.length = fn.ntmps → Has fr 0 args → R ⟨C, prot, fn.results.toList, .trim H⟩ c [] fr H r) : aLim C prot f args H = some r := by
 have h := entered (Q := fun fr => R ⟨C, prot, fn.results.toList, .trim H⟩ c [] fr H r) hl h
 obtain ⟨e, fr', H', h1, h2⟩ := h
 have h1' := aCode_conv (aLim_conv C) _ h1
 have hfin : Fin ⟨C, prot, fn.results.toList, .trim H⟩ fr' H' r ∧ ∀ id, e ≠ .exit id := by
  cases e with
  | normal => exact ⟨h2, fun _ h => by cases h⟩
  | ret => exact ⟨h2, fun _ h => by cases h⟩
  | exit id => exact h2.elim
 obtain ⟨⟨l, hr, r', hfz, hto, rfl⟩, hex⟩ := hfin
 refine aLim_of ?_
 obtain ⟨n0, h0⟩ := h1'.and hfz.ev
 refine ⟨n0 + 1, fun n hn => ?_⟩
 obtain ⟨n, rfl⟩ : ∃ j, n = j + 1 := ⟨n - 1, by omega⟩
 obtain ⟨h3, h4⟩ := h0 n (by omega)
 cases e with
 | exit id => exact absurd rfl (hex id)
 | normal => simp only [aCall, hok, Bool.true_eq_false, if_false, hfn, hb, hp, hsh, htr, Bool.false_eq_true, if_true, Option.bind_some, aBody, h3, hr, Option.map_some, h4, hto]
 | ret => simp only [aCall, hok, Bool.true_eq_false, if_false, hfn, hb, hp, hsh, htr, Bool.false_eq_true, if_true, Option.bind_some, aBody, h3, hr, Option.map_some, h4, hto]
theorem lim_call {C : Cfg} {prot : Nat} {f : FuncId} {args : List AV} {H : Heap} {v : AV} {h : Option Heap} (hc : aLim C prot f args H = some (v, h)) : ∃ k H', aCall C k prot f args H = some (v, H') := by
 obtain ⟨n, hn⟩ := aLim_ev hc
 exact ⟨n, h, hn n (Nat.le_refl _)⟩
theorem iter_le {b b' : RunT} (h : ∀ fr H r, b fr H = some r → b' fr H = some r) : ∀ (m : Nat) {fr : List AV} {H : Heap} {r : AExit × List AV × Heap}, iter m b fr H = some r → iter m b' fr H = some r
 | 0, _, _, _, hh => by simp [iter] at hh
 | m + 1, fr, H, r, hh => by
  simp only [iter, Option.bind_eq_some_iff] at hh ⊢
  obtain ⟨⟨e, fr', H'⟩, h1, h2⟩ := hh
  refine ⟨_, h _ _ _ h1, ?_⟩
  cases e with
  | normal => exact iter_le h m h2
  | exit id => exact h2
  | ret => exact h2
theorem aCode_iter {P : Program} {c : CallT} {prot k : Nat} : ∀ (a : Code) {fr : List AV} {H : Heap} {r : AExit × List AV × Heap}, aCode P c (iter k) prot a fr H = some r → aCode P c loopL prot a fr H = some r := by
 intro a
 induction a with
 | skip => intro fr H r h; exact h
 | exit id => intro fr H r h; exact h
 | ret => intro fr H r h; exact h
 | region id ops draw => intro fr H r h; exact h
 | seq a b iha ihb =>
  intro fr H r h
  simp only [aCode, Option.bind_eq_some_iff] at h ⊢
  obtain ⟨⟨e, fr', H'⟩, h1, h2⟩ := h
  cases e with
  | normal => exact ⟨_, iha h1, ihb h2⟩
  | exit id => exact ⟨_, iha h1, h2⟩
  | ret => exact ⟨_, iha h1, h2⟩
 | cond x a b iha ihb =>
  intro fr H r h
  simp only [aCode, Option.bind_eq_some_iff] at h ⊢
  obtain ⟨v, h1, h2⟩ := h
  cases v with
  | bool t =>
   cases t with
   | true => exact ⟨_, h1, by simpa using iha (by simpa using h2)⟩
   | false => exact ⟨_, h1, by simpa using ihb (by simpa using h2)⟩
  | _ => cases h2
 | block id a iha =>
  intro fr H r h
  simp only [aCode, Option.map_eq_some_iff] at h ⊢
  obtain ⟨x, h1, h2⟩ := h
  exact ⟨x, iha h1, h2⟩
 | loop a iha =>
  intro fr H r h
  simp only [aCode] at h ⊢
  exact loopL_of (iter_le (fun _ _ _ h => iha h) _ h)
 | scope a iha => intro fr H r h; exact iha h
 | label l => intro fr H r h; exact h
 | _ => intro fr H r h; simp [aCode] at h
theorem aCall_conv {C : Cfg} : ∀ k, Conv (aCall C) (aCall C k) := by
 intro k
 induction k with
 | zero => intro prot f args H r h; simp [aCall] at h
 | succ k ih =>
  intro prot f args H r hh
  have body : ∀ {prot : Nat} {fn : Func} {c : Code} {args : List AV} {H : Heap} {r : AV × Heap}, aBody C.P (aCall C k) (iter k) prot fn c args H = some r → Ev fun n => aBody C.P (aCall C n) (iter n) prot fn c args H = some r := by
   intro prot fn c args H r h
   simp only [aBody, Option.bind_eq_some_iff] at h ⊢
   obtain ⟨x, h1, h2⟩ := h
   exact (aCode_conv ih _ (aCode_iter _ h1)).mono fun n hn => ⟨x, hn, h2⟩
  have up : ∀ {p : Nat → Prop}, (Ev fun n => p (n + 1)) → Ev p := by
   rintro p ⟨a, h⟩
   refine ⟨a + 1, fun n hn => ?_⟩
   obtain ⟨n, rfl⟩ : ∃ j, n = j + 1 := ⟨n - 1, by omega⟩
   exact h n (by omega)
  refine up ?_
  simp only [aCall] at hh ⊢
  split at hh
  ·rename_i hok
   simp only [hok, if_true]
   exact .const hh
  rename_i hok
  simp only [Option.bind_eq_some_iff] at hh
  obtain ⟨fn, hfn, hh⟩ := hh
  cases hb : fn.body with
  | none =>
   simp only [hb] at hh
   simp only [hok, if_false, hfn, hb, Option.bind_some]
   exact .const hh
  | some c =>
  simp only [hb] at hh
  simp only [hok, if_false, hfn, hb, Option.bind_some]
  split at hh
  ·rename_i hp
   split at hh
   case isFalse => cases hh
   rename_i hpl
   simp only [Option.bind_eq_some_iff] at hh
   obtain ⟨⟨args1, sn⟩, hsn, ⟨r1, H1⟩, hbody, r2, hfr, hh⟩ := hh
   dsimp only at hbody hfr hh
   by_cases hk : sn = true ∧ ¬ flat r2 = true
   ·obtain ⟨rfl, h2⟩ := hk
    rw [if_pos rfl, if_neg h2] at hh
    split at hh
    ·cases hh
    rename_i he
    simp only [Option.bind_eq_some_iff, Option.map_eq_some_iff] at hh
    obtain ⟨Hk, hkl, ⟨r3, H3⟩, hbody3, r4, hfr3, hh⟩ := hh
    dsimp only at hbody3 hfr3
    refine (((body hbody).and (Frz.ev ⟨_, hfr⟩)).and ((body hbody3).and (Frz.ev ⟨_, hfr3⟩))) |>.mono fun n hn => ?_
    simp only [hp, hpl, if_true, hsn, Option.bind_some, hn.1.1, hn.1.2]
    rw [if_neg h2, if_neg he]
    simp only [hkl, Option.bind_some, hn.2.1, hn.2.2, Option.map_some]
    exact congrArg some hh
   ·refine (body hbody).and (Frz.ev ⟨_, hfr⟩) |>.mono fun n hn => ?_
    simp only [hp, hpl, if_true, hsn, Option.bind_some, hn.1, hn.2]
    cases sn with
    | false => exact hh
    | true =>
     have h2 : flat r2 = true := Classical.byContradiction fun h => hk ⟨rfl, h⟩
     simp only [h2, if_true] at hh ⊢
     exact hh
  ·rename_i hp
   simp only [hp, if_false]
   split at hh
   ·rename_i hs
    split at hh
    case isFalse => cases hh
    rename_i hpl
    simp only [Option.bind_eq_some_iff] at hh
    obtain ⟨⟨r1, H1⟩, hbody, hh⟩ := hh
    refine (body hbody).mono fun n hn => ?_
    simp only [hs, hpl, if_true, hn, Option.bind_some]
    exact hh
   ·rename_i hs
    simp only [hs, if_false]
    split at hh
    ·rename_i ht
     simp only [Option.bind_eq_some_iff] at hh
     obtain ⟨⟨r1, H1⟩, hbody, r2, hfr, hh⟩ := hh
     refine (body hbody).and (Frz.ev ⟨_, hfr⟩) |>.mono fun n hn => ?_
     simp only [ht, if_true, hn.1, hn.2, Option.bind_some]
     exact hh
    ·rename_i ht
     simp only [Option.map_eq_some_iff] at hh
     obtain ⟨⟨r1, H1⟩, hbody, hh⟩ := hh
     refine (body hbody).mono fun n hn => ?_
     simp only [ht, if_false, hn, Option.map_some]
     exact congrArg some hh
theorem lim_of_call {C : Cfg} {k prot : Nat} {f : FuncId} {args : List AV} {H : Heap} {r : AV × Option Heap} (h : aCall C k prot f args H = some r) : aLim C prot f args H = some r :=
 aLim_of (aCall_conv k _ _ _ _ _ h)
theorem lim_own {C : Cfg} {prot : Nat} {f : FuncId} {args : List AV} {H : Heap} {r : AV × Option Heap} (hok : C.ok f = false) (hp : C.pure f = false) (hs : C.shut f = false) (h : C.own prot f args H = some r) : aLim C prot f args H = some r :=
 lim_of_call (k := 1) (by simp only [aCall, hok, if_true, hp, hs, Bool.or_self, Bool.false_eq_true, if_false, h])
theorem lim_ext {C : Cfg} {f : FuncId} {fn : Func} {args : List AV} {r : AV} (hok : C.ok f = true) (hfn : C.P.funcs[f]? = some fn) (hb : fn.body = none) (hsh : C.shut f = false) (prot : Nat) (H : Heap) (h : aExt C.P prot H fn args = some (r, none)) : aLim C prot f args H = some (r, none) := by
 refine lim_of_call (k := 1) ?_
 simp only [aCall, hok, Bool.true_eq_false, Bool.false_eq_true, if_false, hfn, Option.bind_some, hb, hsh, h, Option.isSome_none, Bool.and_false]
theorem lim_extL {C : Cfg} {f : FuncId} {fn : Func} {args : List AV} {r : AV × Option Heap} (hok : C.ok f = true) (hfn : C.P.funcs[f]? = some fn) (hb : fn.body = none) (hsh : C.shut f = false) (hp : C.pure f = false) (prot : Nat) (H : Heap) (h : aExt C.P prot H fn args = some r) : aLim C prot f args H = some r := by
 refine lim_of_call (k := 1) ?_
 simp only [aCall, hok, Bool.true_eq_false, Bool.false_eq_true, if_false, hfn, Option.bind_some, hb, hsh, h, hp, Bool.false_and]
theorem lim_shut {C : Cfg} {k : Nat} {f : FuncId} {args : List AV} {r : AV × Option Heap} (hp : C.pure f = false) (hs : C.shut f = true) (h : aCall C k 0 f args [] = some r) (prot : Nat) (H : Heap) : aLim C prot f args H = some r := by
 refine lim_of_call (k := k) ?_
 rw [← h]
 cases k with
 | zero => rfl
 | succ k =>
  by_cases hok : C.ok f = false
  ·simp only [aCall, hok, hp, hs, if_true, Bool.or_true]
  ·have hok' : C.ok f = true := by simpa using hok
   simp only [aCall, hok', Bool.true_eq_false, hp, hs, if_true, Bool.false_eq_true, if_false]
end Go.Abs

