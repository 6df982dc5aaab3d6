import Derived.Test.YtoblikhnbddfmaaQ1
/-! Chapter 16: what a machine takes: plain. -/
set_option linter.unusedSimpArgs false
namespace Go.Proofs.Ytoblikhnbddfmaa
open Go Go.Abs AbsSeat Ty

/-- a machine takes runes from a state on. -/
inductive Acc (l : List St) : Nat → List Int → Prop where
  | halt {k : Nat} {s : St} (h : l[k]? = some s) (h3 : s.kind = 3) : Acc l k []
  | split {k j : Nat} {u : List Int} (h : nxt l k j) (a : Acc l j u) : Acc l k u
  | take {k j : Nat} {c : Int} {u : List Int} (h : tk l c k j) (a : Acc l j u) : Acc l k (c :: u)
/-- runes lead from a state to a state. -/
inductive Pth (l : List St) : Nat → List Int → Nat → Prop where
  | refl {k : Nat} : Pth l k [] k
  | split {k j m : Nat} {u : List Int} (h : nxt l k j) (a : Pth l j u m) : Pth l k u m
  | take {k j m : Nat} {c : Int} {u : List Int} (h : tk l c k j) (a : Pth l j u m) : Pth l k (c :: u) m
theorem Pth.acc {l : List St} {k m : Nat} {u v : List Int} (h : Pth l k u m) (a : Acc l m v) : Acc l k (u ++ v) := by
  induction h with
  | refl => exact a
  | split h _ ih => exact .split h (ih a)
  | take h _ ih => exact .take h (ih a)
theorem Rch.pth {l : List St} {k j : Nat} (h : Rch l k j) {u : List Int} (a : Acc l j u) : Acc l k u := by
  induction h with
  | refl => exact a
  | step _ n ih => exact ih (.split n a)
/-- a way through a piece leads through the same piece elsewhere. -/
theorem acc_mov {b b2 to to2 : Nat} {A A2 M M2 : List St} (hrel : RelL b b2 (to : Nat) (to2 : Nat) A A2) (hb : to < b) (hM : ∀ i s, b ≤ i → A[i]? = some s → M[i]? = some s) (hM2 : ∀ i s, b2 ≤ i → A2[i]? = some s → M2[i]? = some s)
    {h : St} (hto : M[to]? = some h) (hh : h.kind = 3) {k : Nat} {u : List Int} (a : Acc M k u) : ∀ k2 : Nat, Rv b b2 (to : Nat) (to2 : Nat) A.length (k : Nat) (k2 : Nat) → Pth M2 k2 u to2 := by
  have key : ∀ {k k2 : Nat} {s : St}, Rv b b2 (to : Nat) (to2 : Nat) A.length (k : Nat) (k2 : Nat) → M[k]? = some s → (k = to ∧ k2 = to2 ∧ s = h) ∨ ∃ s2, M2[k2]? = some s2 ∧ EqS b b2 (to : Nat) (to2 : Nat) A.length s s2 := fun {k k2 s} hr hs => by
    rcases hr with ⟨h1, h2⟩ | ⟨h1, h0, h2⟩
    · have e1 : k = to := by omega
      subst e1
      rw [hto] at hs
      cases hs
      exact .inl ⟨rfl, by omega, rfl⟩
    · have hka : k < A.length := by omega
      obtain ⟨t, t2, e1, e2, e3⟩ := hrel.2.2 (k - b) (by omega)
      rw [show b + (k - b) = k by omega] at e1
      have := hM k t (by omega) e1
      rw [hs] at this
      cases this
      have e2' := hM2 (b2 + (k - b)) t2 (by omega) e2
      rw [show b2 + (k - b) = k2 by omega] at e2'
      exact .inr ⟨t2, e2', e3⟩
  induction a with
  | @halt k s h1 h3 =>
    intro k2 hr
    rcases key hr h1 with ⟨_, e, _⟩ | ⟨s2, _, e3⟩
    · rw [e]; exact .refl
    · have := e3.2.2.2.1; omega
  | @split k j u hn _ ih =>
    intro k2 hr
    obtain ⟨s, h1, h2, h3⟩ := hn
    rcases key hr h1 with ⟨_, _, e⟩ | ⟨s2, e2, e3⟩
    · rw [e] at h2; omega
    · obtain ⟨q1, q2, q3, q4, q5, q6⟩ := e3
      have q6 := q6 h2
      rcases h3 with h3 | h3
      · rw [h3] at q5
        have hj : ∃ j2 : Nat, s2.one = (j2 : Nat) := by
          rcases q5 with ⟨_, e⟩ | ⟨e1, _, e⟩
          · exact ⟨to2, e⟩
          · exact ⟨(s2.one).toNat, by omega⟩
        obtain ⟨j2, hj2⟩ := hj
        rw [hj2] at q5
        exact .split ⟨s2, e2, by omega, .inl hj2⟩ (ih j2 q5)
      · rw [h3] at q6
        have hj : ∃ j2 : Nat, s2.two = (j2 : Nat) := by
          rcases q6 with ⟨_, e⟩ | ⟨e1, _, e⟩
          · exact ⟨to2, e⟩
          · exact ⟨(s2.two).toNat, by omega⟩
        obtain ⟨j2, hj2⟩ := hj
        rw [hj2] at q6
        exact .split ⟨s2, e2, by omega, .inr hj2⟩ (ih j2 q6)
  | @take k j c u ht _ ih =>
    intro k2 hr
    obtain ⟨s, h1, h2, h3, h4⟩ := ht
    rcases key hr h1 with ⟨_, _, e⟩ | ⟨s2, e2, e3⟩
    · rw [e] at h2; omega
    · obtain ⟨q1, q2, q3, q4, q5, q6⟩ := e3
      rw [h4] at q5
      have hj : ∃ j2 : Nat, s2.one = (j2 : Nat) := by
        rcases q5 with ⟨_, e⟩ | ⟨e1, _, e⟩
        · exact ⟨to2, e⟩
        · exact ⟨(s2.one).toNat, by omega⟩
      obtain ⟨j2, hj2⟩ := hj
      rw [hj2] at q5
      exact .take ⟨s2, e2, by omega, by rw [← q2, ← q3]; exact h3, hj2⟩ (ih j2 q5)
/-- what a run's last set tells. -/
theorem run_acc {l : List St} {s : List UInt8} {k : Nat} {o : List Nat} {os : List (Nat × List Nat)} (h : RunRel l s k o os) : ∀ rs, runesU (s.drop k) = some rs → Closed l o → (haltS l (((k, o) :: os).getLast (by simp)).2 = true ↔ ∃ x ∈ o, Acc l x rs) := by
  have hs : ∀ o : List Nat, Closed l o → (haltS l o = true ↔ ∃ x ∈ o, Acc l x []) := fun o hc => by
    unfold haltS
    rw [List.any_eq_true]
    constructor
    · rintro ⟨x, h1, h2⟩
      simp only [decide_eq_true_eq] at h2
      unfold kd at h2
      cases hx : l[x]? with
      | none => rw [hx] at h2; cases h2
      | some t => rw [hx] at h2; exact ⟨x, h1, .halt hx h2⟩
    · rintro ⟨x, h1, h2⟩
      generalize hu : ([] : List Int) = u at h2
      induction h2 with
      | halt hx h3 => exact ⟨_, h1, by unfold kd; rw [hx]; simpa using h3⟩
      | split hn _ ih => exact ih (hc _ h1 _ hn) hu
      | take _ _ _ => cases hu
  induction h with
  | @done k o h =>
    intro rs hr hc
    rw [List.drop_eq_nil_of_le h, runesU_nil] at hr
    cases hr
    exact hs o hc
  | @bad k o h he =>
    intro rs hr hc
    rw [runesU_step h, dif_neg he] at hr
    cases hr
  | @step k o o' os h he hnd hlt hm hr ih =>
    intro rs hrs hc
    rw [runesU_step h, dif_pos he] at hrs
    cases hd : runesU (s.drop (k + (nextU (s.drop k)).2.1)) with
    | none => rw [hd] at hrs; cases hrs
    | some r2 =>
      rw [hd] at hrs
      cases hrs
      have hc' : Closed l o' := fun x hx y hn => by
        rw [hm] at hx ⊢
        obtain ⟨j, h1, z, h2, h3⟩ := hx
        exact ⟨j, h1, z, h2, h3.step hn⟩
      rw [List.getLast_cons (by simp), ih r2 hd hc']
      constructor
      · rintro ⟨y, h1, h2⟩
        obtain ⟨j, h3, z, h4, h5⟩ := (hm y).1 h1
        exact ⟨j, h3, .take h4 (h5.pth h2)⟩
      · rintro ⟨x, h1, h2⟩
        replace h2 : Acc l x ((nextU (s.drop k)).1 :: r2) := h2
        generalize hu : ((nextU (s.drop k)).1 :: r2) = u at h2
        induction h2 with
        | halt _ _ => cases hu
        | split hn _ ih2 => exact ih2 (hc _ h1 _ hn) hu
        | @take k0 j c u ht a _ =>
          cases hu
          exact ⟨j, (hm j).2 ⟨k0, h1, j, ht, .refl⟩, a⟩
theorem run_lastN {l : List St} {s : List UInt8} {k : Nat} {o : List Nat} {os : List (Nat × List Nat)} (h : RunRel l s k o os) : k ≤ s.length → (runesU (s.drop k)).isSome = true → (((k, o) :: os).getLast (by simp)).1 = s.length := by
  induction h with
  | @done k o h => intro h1 _; show k = s.length; omega
  | @bad k o h he => intro _ h2; rw [runesU_step h, dif_neg he] at h2; cases h2
  | @step k o o' os h he hnd hlt hm hr ih =>
    intro h1 h2
    rw [runesU_step h, dif_pos he] at h2
    have hpos := nextU_pos he
    simp only [List.length_drop] at hpos
    rw [List.getLast_cons (by simp)]
    refine ih (by omega) ?_
    cases hd : runesU (s.drop (k + (nextU (s.drop k)).2.1)) with
    | none => rw [hd] at h2; cases h2
    | some x => rfl
/-- a machine takes a text just if it takes its runes. -/
theorem match_acc (l : List St) (hr : RightM l) (hsp : ∀ s ∈ l, s.sp.length < 1000000000) (a : Nat) (ha : a < l.length) (hln : l.length ≤ 100000) (s : List UInt8) (hs : s.length ≤ 10000) (prot : Nat) (H : Heap) (hp : prot ≤ H.length) :
    ∃ b : Bool, (b = true ↔ ∃ rs, runesU s = some rs ∧ Acc l a rs) ∧ aLim cfg prot 41 [encM l a, .str s] H = some (.bool b, none) := by
  obtain ⟨o0, os, ⟨h1, h2, h3, h4⟩, h5⟩ := match_ok l hr hsp a ha hln s hs prot H hp
  refine ⟨_, ?_, h5⟩
  have hfl : ∀ (T : List (Nat × List Nat)) (h : T ≠ []) (q : Bool), told (fun (_ : Bool) a o => decide (a = s.length) && haltS l o) q T = (decide ((T.getLast h).1 = s.length) && haltS l (T.getLast h).2) := by
    intro T h
    induction T with
    | nil => exact absurd rfl h
    | cons p r ih =>
      intro q
      cases r with
      | nil => rfl
      | cons p2 r2 =>
        rw [List.getLast_cons (by simp)]
        exact ih (by simp) (decide (p.1 = s.length) && haltS l p.2)
  rw [hfl ((0, o0) :: os) (by simp) false]
  have hc : Closed l o0 := fun x hx y hn => by
    rw [h3] at hx ⊢
    exact hx.step hn
  have hra := run_acc h4
  have hla : (0 : Nat) ≤ s.length → (runesU (s.drop 0)).isSome = true → (((0, o0) :: os).getLast (by simp)).1 = s.length := run_lastN h4
  rw [List.drop_zero] at hra hla
  cases hru : runesU s with
  | none => simp
  | some rs =>
    have hra := hra rs hru hc
    have hla := hla (Nat.zero_le _) (by rw [hru]; rfl)
    rw [hla, decide_eq_true rfl, Bool.true_and, Option.isSome_some, Bool.true_and, hra]
    constructor
    · rintro ⟨x, h6, h7⟩
      exact ⟨rs, rfl, ((h3 x).1 h6).pth h7⟩
    · rintro ⟨rs', h6, h7⟩
      cases h6
      exact ⟨a, (h3 a).2 .refl, h7⟩
end Go.Proofs.Ytoblikhnbddfmaa
