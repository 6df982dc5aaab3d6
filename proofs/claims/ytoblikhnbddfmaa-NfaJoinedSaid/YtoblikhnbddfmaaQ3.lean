import Derived.Test.YtoblikhnbddfmaaQ2
/-! Chapter 16: machines of two expressions: plain. -/
set_option linter.unusedSimpArgs false
namespace Go.Proofs.Ytoblikhnbddfmaa
open Go Go.Abs AbsSeat Ty

theorem nextU_app {b : List UInt8} (t : List UInt8) (h : (nextU b).2.2 = 0) : nextU (b ++ t) = nextU b := by
  cases b with
  | nil => cases h
  | cons c r =>
    have e1 := nextU_eq (b := c :: r) rfl
    have e2 := nextU_eq (b := c :: r ++ t) (c := c) (r := r ++ t) rfl
    have hn := h
    rw [e1] at hn
    rw [e1, e2]
    by_cases hc : wantedU c.toNat = 0 ∨ fitsU c (c :: r) (wantedU c.toNat) = false
    · rw [if_pos hc] at hn; cases hn
    · rw [if_neg hc] at hn ⊢
      by_cases hl : (c :: r).length < wantedU c.toNat
      · rw [if_pos hl] at hn; cases hn
      · rw [if_neg hl]
        have hw : wantedU c.toNat ≠ 0 := fun e => hc (.inl e)
        have hle : wantedU c.toNat ≤ (c :: r).length := by omega
        have hf : fitsU c (c :: r ++ t) (wantedU c.toNat) = fitsU c (c :: r) (wantedU c.toNat) := by
          unfold fitsU; rw [List.take_append_of_le_length hle]
        rw [hf, if_neg hc, if_neg (by rw [List.length_append]; omega)]
        have hd : ((c :: r ++ t).drop 1).take (wantedU c.toNat - 1) = ((c :: r).drop 1).take (wantedU c.toNat - 1) := by
          rw [List.drop_append_of_le_length (by simp), List.take_append_of_le_length (by simp at hle ⊢; omega)]
        rw [hd]
theorem runesU_app : ∀ (n : Nat) (s t : List UInt8) (a : List Int), s.length ≤ n → runesU s = some a → runesU (s ++ t) = (runesU t).map (a ++ ·)
  | 0, s, t, a, hn, h => by
    have : s = [] := by simpa using hn
    subst this
    rw [runesU_nil] at h; cases h
    simp
  | n + 1, s, t, a, hn, h => by
    by_cases hs : s = []
    · subst hs
      rw [runesU_nil] at h; cases h
      simp
    · rw [runesU, if_neg hs] at h
      split at h
      · rename_i he
        have hpos := nextU_pos he
        cases hd : runesU (s.drop (nextU s).2.1) with
        | none => rw [hd] at h; cases h
        | some a2 =>
          rw [hd] at h
          cases h
          have ih := runesU_app n (s.drop (nextU s).2.1) t a2 (by simp; omega) hd
          have hst : s ++ t ≠ [] := by simp [hs]
          rw [runesU, if_neg hst]
          have hna := nextU_app t he
          rw [dif_pos (by rw [hna]; exact he), hna, List.drop_append_of_le_length hpos.2, ih]
          cases runesU t <;> simp
      · cases h
theorem Acc.mono {L M : List St} (h : Pre L M) {k : Nat} {u : List Int} (a : Acc L k u) : Acc M k u := by
  induction a with
  | halt h1 h3 => exact .halt (h _ _ h1) h3
  | split hn _ ih => obtain ⟨s, h1, h2⟩ := hn; exact .split ⟨s, h _ _ h1, h2⟩ ih
  | take ht _ ih => obtain ⟨s, h1, h2⟩ := ht; exact .take ⟨s, h _ _ h1, h2⟩ ih
theorem Pth.mono {L M : List St} (h : Pre L M) {k m : Nat} {u : List Int} (a : Pth L k u m) : Pth M k u m := by
  induction a with
  | refl => exact .refl
  | split hn _ ih => obtain ⟨s, h1, h2⟩ := hn; exact .split ⟨s, h _ _ h1, h2⟩ ih
  | take ht _ ih => obtain ⟨s, h1, h2⟩ := ht; exact .take ⟨s, h _ _ h1, h2⟩ ih
def H0 : List St := [⟨3, false, [], 0, 0⟩]
theorem mov_nat {f : List St → Int → List St × Int} (hf : Mov f) (L : List St) (to : Nat) : ∃ a : Nat, (f L (to : Nat)).2 = (a : Nat) := by
  obtain ⟨_, h, _⟩ := hf L L (to : Nat) (to : Nat)
  rcases h with ⟨h, _⟩ | ⟨h, _, _⟩
  · exact ⟨to, h⟩
  · exact ⟨((f L (to : Nat)).2).toNat, by omega⟩
/-- one machine behind another one. -/
theorem concat_acc (X Y : Nd) {a b : Nat} {u v : List Int} (ha : (mkN X H0 0).2 = (a : Nat)) (hb : (mkN Y H0 0).2 = (b : Nat)) (h1 : Acc (mkN X H0 0).1 a u) (h2 : Acc (mkN Y H0 0).1 b v) {c : Nat} (hc : (mkN X (mkN Y H0 0).1 (mkN Y H0 0).2).2 = (c : Nat)) :
    Acc (mkN X (mkN Y H0 0).1 (mkN Y H0 0).2).1 c (u ++ v) := by
  obtain ⟨m1, m2, m3⟩ := mkN_mov X H0 (mkN Y H0 0).1 0 (mkN Y H0 0).2
  obtain ⟨_, _, m4⟩ := mkN_mov X (mkN Y H0 0).1 (mkN Y H0 0).1 (mkN Y H0 0).2 (mkN Y H0 0).2
  rw [ha, hc] at m2
  rw [hb] at *
  have hp : Pth (mkN X (mkN Y H0 0).1 (b : Nat)).1 c u b := acc_mov (to := 0) (to2 := b) m1 (by decide) (fun i s _ h => h) (fun i s _ h => h) (m3 0 _ rfl) rfl h1 c m2
  exact hp.acc (h2.mono m4)
/-- where an alternative lies. -/
theorem alt_in (to : Nat) : ∀ (K : List Nd) (L : List St) (x : Nd), x ∈ K → ∃ (Lx : List St) (e k : Nat), L.length ≤ Lx.length ∧ Pre (mkN x Lx (to : Nat)).1 (mkE K L (to : Nat)).1 ∧ (mkE K L (to : Nat)).2 = (e : Nat) ∧ (mkN x Lx (to : Nat)).2 = (k : Nat) ∧ Pth (mkE K L (to : Nat)).1 e [] k
  | [], L, x, hx => by cases hx
  | y :: r, L, x, hx => by
    obtain ⟨m1, _, m3⟩ := mkE_mov r L L (to : Nat) (to : Nat)
    obtain ⟨n1, _, n3⟩ := mkN_mov y (mkE r L (to : Nat)).1 (mkE r L (to : Nat)).1 (to : Nat) (to : Nat)
    obtain ⟨k1, hk1⟩ := mov_nat (mkN_mov y) (mkE r L (to : Nat)).1 to
    obtain ⟨t1, ht1⟩ := mov_nat (mkE_mov r) L to
    rw [mkE]
    by_cases hr : r = []
    · subst hr
      rw [if_pos (by rfl)]
      have hxy : x = y := by simpa using hx
      subst hxy
      exact ⟨_, k1, k1, m1.1, Pre.refl _, hk1, hk1, .refl⟩
    · rw [if_neg (by simpa using hr)]
      dsimp only
      generalize hw : mkN y (mkE r L (to : Nat)).1 (to : Nat) = w at *
      have hsp : (w.1 ++ [(⟨2, false, [], w.2, (mkE r L (to : Nat)).2⟩ : St)])[w.1.length]? = some ⟨2, false, [], w.2, (mkE r L (to : Nat)).2⟩ := by simp
      by_cases hxy : x = y
      · subst hxy
        refine ⟨(mkE r L (to : Nat)).1, w.1.length, k1, m1.1, by rw [hw]; exact Pre.app _ _, rfl, by rw [hw]; exact hk1, .split ⟨_, hsp, rfl, .inl hk1⟩ .refl⟩
      · have hxr : x ∈ r := by
          rcases List.mem_cons.1 hx with h | h
          · exact absurd h hxy
          · exact h
        obtain ⟨Lx, e, k, q1, q2, q3, q4, q5⟩ := alt_in to r L x hxr
        rw [ht1] at q3
        have he : t1 = e := by omega
        subst he
        exact ⟨Lx, w.1.length, k, q1, (q2.trans n3).trans (Pre.app _ _), rfl, q4, .split ⟨_, hsp, rfl, .inr ht1⟩ (q5.mono (n3.trans (Pre.app _ _)))⟩
/-- what alternatives take, one of them takes. -/
theorem alt_out (to : Nat) : ∀ (K : List Nd) (L M : List St), K ≠ [] → Pre (mkE K L (to : Nat)).1 M → ∀ (e : Nat) (u : List Int), (mkE K L (to : Nat)).2 = (e : Nat) → Acc M e u →
    ∃ x ∈ K, ∃ (Lx : List St) (k : Nat), L.length ≤ Lx.length ∧ Pre (mkN x Lx (to : Nat)).1 M ∧ (mkN x Lx (to : Nat)).2 = (k : Nat) ∧ Acc M k u
  | [], L, M, hK, _, e, u, _, _ => absurd rfl hK
  | y :: r, L, M, _, hM, e, u, he, ha => by
    obtain ⟨m1, _, m3⟩ := mkE_mov r L L (to : Nat) (to : Nat)
    obtain ⟨n1, _, n3⟩ := mkN_mov y (mkE r L (to : Nat)).1 (mkE r L (to : Nat)).1 (to : Nat) (to : Nat)
    obtain ⟨k1, hk1⟩ := mov_nat (mkN_mov y) (mkE r L (to : Nat)).1 to
    obtain ⟨t1, ht1⟩ := mov_nat (mkE_mov r) L to
    rw [mkE] at hM he
    by_cases hr : r = []
    · subst hr
      rw [if_pos (by rfl)] at hM he
      exact ⟨y, by simp, _, e, m1.1, hM, he, ha⟩
    · rw [if_neg (by simpa using hr)] at hM he
      dsimp only at hM he
      generalize hw : mkN y (mkE r L (to : Nat)).1 (to : Nat) = w at *
      have hsp : M[w.1.length]? = some ⟨2, false, [], w.2, (mkE r L (to : Nat)).2⟩ := hM _ _ (by simp)
      have hee : e = w.1.length := by omega
      subst hee
      have hMw : Pre w.1 M := (Pre.app _ _).trans hM
      generalize hk : w.1.length = k0 at *
      cases ha with
      | halt h1 h3 => rw [hsp] at h1; cases h1; cases h3
      | take ht _ => obtain ⟨s, h1, h2, _⟩ := ht; rw [hsp] at h1; cases h1; cases h2
      | @split _ j _ hn a =>
        obtain ⟨s, h1, _, h3⟩ := hn
        rw [hsp] at h1; cases h1
        rcases h3 with h3 | h3
        · refine ⟨y, by simp, (mkE r L (to : Nat)).1, j, m1.1, by rw [hw]; exact hMw, by rw [hw]; exact h3, a⟩
        · obtain ⟨x, hx, Lx, k, q1, q2, q3, q4⟩ := alt_out to r L M hr (n3.trans hMw) j u h3 a
          exact ⟨x, by simp [hx], Lx, k, q1, q2, q3, q4⟩
/-- more alternatives take more. -/
theorem alt_more (K K2 : List Nd) (hK : K ≠ []) (hs : ∀ x ∈ K, x ∈ K2) {a d : Nat} {u : List Int} (ha : (mkE K H0 0).2 = (a : Nat)) (hd : (mkE K2 H0 0).2 = (d : Nat)) (h : Acc (mkE K H0 0).1 a u) : Acc (mkE K2 H0 0).1 d u := by
  obtain ⟨x, hx, Lx, k, q1, q2, q3, q4⟩ := alt_out 0 K H0 _ hK (Pre.refl _) a u ha h
  obtain ⟨Ly, e, k2, r1, r2, r3, r4, r5⟩ := alt_in 0 K2 H0 x (hs x hx)
  have hde : d = e := by
    have : ((d : Nat) : Int) = (e : Nat) := hd.symm.trans r3
    omega
  subst hde
  obtain ⟨m1, m2, _⟩ := mkN_mov x Lx Ly 0 0
  have q3' : (mkN x Lx 0).2 = (k : Nat) := q3
  have r4' : (mkN x Ly 0).2 = (k2 : Nat) := r4
  rw [q3', r4'] at m2
  obtain ⟨_, _, p1⟩ := mkE_mov K H0 H0 0 0
  obtain ⟨_, _, p2⟩ := mkE_mov K2 H0 H0 0 0
  have hb : 0 < Lx.length := by have : H0.length = 1 := rfl; omega
  have hp : Pth (mkE K2 H0 0).1 k2 u 0 := acc_mov (to := 0) (to2 := 0) m1 hb (fun i s _ h => q2 i s h) (fun i s _ h => r2 i s h) (p1 0 _ rfl) rfl q4 k2 m2
  have := hp.acc (v := []) (.halt (p2 0 _ rfl) rfl)
  rw [List.append_nil] at this
  exact r5.acc this
theorem mkN_eitN (K : List Nd) (hK : K ≠ []) (L : List St) (to : Int) : mkN (eitN K) L to = mkE K L to := by
  match K, hK with
  | [x], _ => rw [mkE, mkE]; rfl
  | x :: y :: r, _ => rw [show eitN (x :: y :: r) = .mk 3 false false [] 0 0 false (x :: y :: r) from rfl, mkN.eq_def]; simp
end Go.Proofs.Ytoblikhnbddfmaa
