import Derived.Test.YtoblikhnbddfmaaP3
/-! Chapter 16: what a machine is in, by the program and by the document: plain. -/
set_option linter.unusedSimpArgs false
namespace Go.Proofs.Ytoblikhnbddfmaa
open Go Go.Abs AbsSeat Ty

theorem bt_lt {o : List Bool} {k : Nat} (h : bt o k = true) : k < o.length := by
  unfold bt at h
  cases hk : o[k]? with
  | none => rw [hk] at h; cases h
  | some b => exact (List.getElem?_eq_some_iff.1 hk).1
theorem bt_set {o : List Bool} {i x : Nat} : bt (o.set i true) x = true ↔ (x = i ∧ i < o.length) ∨ bt o x = true := by
  unfold bt
  rw [List.getElem?_set]
  by_cases h : i = x
  · subst h
    by_cases h2 : i < o.length
    · simp [h2]
    · simp [h2]
  · rw [if_neg h]
    constructor
    · exact .inr
    · rintro (⟨rfl, _⟩ | h2)
      · exact absurd rfl h
      · exact h2
theorem bt_ext {o p : List Bool} (hl : o.length = p.length) (h : ∀ k, k < o.length → bt o k = bt p k) : o = p := by
  apply List.ext_getElem hl
  intro i h1 h2
  have := h i h1
  simpa [bt, h1, h2] using this
theorem set_same {o : List Bool} {i : Nat} (h : bt o i = true) : o.set i true = o := by
  apply bt_ext (by simp)
  intro k hk
  rw [Bool.eq_iff_iff, bt_set]
  constructor
  · rintro (⟨rfl, _⟩ | h2)
    · exact h
    · exact h2
  · exact .inr
theorem stepC_mono {l : List St} {o : List Bool} {k x : Nat} (h : bt o x = true) : bt (stepC l o k) x = true := by
  unfold stepC
  split
  · split
    · exact bt_set.2 (.inr (bt_set.2 (.inr h)))
    · exact h
  · exact h
theorem passC_mono {l : List St} {o : List Bool} {x : Nat} (h : bt o x = true) : ∀ k, bt (passC l o k) x = true
  | 0 => h
  | k + 1 => by rw [passC_succ]; exact stepC_mono (passC_mono h k)
theorem passC_up {l : List St} {o : List Bool} {x j : Nat} (h : bt (passC l o j) x = true) : ∀ k, j ≤ k → bt (passC l o k) x = true
  | 0, hk => by have : j = 0 := by omega
                subst this; exact h
  | k + 1, hk => by
    by_cases hj : j = k + 1
    · subst hj; exact h
    · rw [passC_succ]; exact stepC_mono (passC_up h k (by omega))
/-- in one pass each Split that is in leads on. -/
theorem pass_next {l : List St} (hr : RightM l) {o : List Bool} (hl : o.length = l.length) {k y : Nat} (hk : bt o k = true) (hn : nxt l k y) : bt (passC l o l.length) y = true := by
  obtain ⟨s, h1, h2, h3⟩ := hn
  have hkl := (List.getElem?_eq_some_iff.1 h1).1
  have hs : s ∈ l := List.mem_of_getElem? h1
  have hrs := hr s hs
  have hb := passC_mono (l := l) hk k
  have hlen := passC_len l o k
  have hy : bt (passC l o (k + 1)) y = true := by
    rw [passC_succ]
    unfold stepC
    rw [h1]
    dsimp only
    rw [hb, decide_eq_true h2]
    rw [if_pos (show (true && true) = true from rfl)]
    have ho := hrs.2.1 (by omega)
    have ht := hrs.2.2 h2
    rcases h3 with h3 | h3
    · exact bt_set.2 (.inr (bt_set.2 (.inl ⟨by omega, by omega⟩)))
    · exact bt_set.2 (.inl ⟨by omega, by rw [List.length_set]; omega⟩)
  exact passC_up hy _ (by omega)
def Cl (l : List St) (o : List Bool) : Prop := ∀ k, bt o k = true → ∀ y, nxt l k y → bt o y = true
theorem step_closed {l : List St} (hr : RightM l) {o : List Bool} (hc : Cl l o) (k : Nat) : stepC l o k = o := by
  unfold stepC
  split
  · rename_i s hs
    split
    · rename_i h
      simp only [Bool.and_eq_true, decide_eq_true_eq] at h
      have hrs := hr s (List.mem_of_getElem? hs)
      have h1 := hc k h.1 s.one.toNat ⟨s, hs, h.2, .inl (by have := hrs.2.1 (by omega); omega)⟩
      have h2 := hc k h.1 s.two.toNat ⟨s, hs, h.2, .inr (by have := hrs.2.2 h.2; omega)⟩
      rw [set_same h1, set_same h2]
    · rfl
  · rfl
theorem pass_closed {l : List St} (hr : RightM l) {o : List Bool} (hc : Cl l o) : ∀ k, passC l o k = o
  | 0 => rfl
  | k + 1 => by rw [passC_succ, pass_closed hr hc k, step_closed hr hc]
theorem filt_le {p q : Nat → Bool} (h : ∀ k, p k = true → q k = true) : ∀ m, ((List.range m).filter p).length ≤ ((List.range m).filter q).length ∧ (((List.range m).filter p).length = ((List.range m).filter q).length → ∀ k, k < m → p k = q k)
  | 0 => ⟨Nat.le_refl _, fun _ k hk => by omega⟩
  | m + 1 => by
    obtain ⟨h1, h2⟩ := filt_le h m
    rw [List.range_succ, List.filter_append, List.filter_append, List.length_append, List.length_append]
    cases hp : p m with
    | true =>
      have hq := h m hp
      simp only [List.filter_cons, hp, hq, if_true, List.filter_nil, List.length_singleton]
      refine ⟨by omega, fun he k hk => ?_⟩
      by_cases hkm : k = m
      · subst hkm; rw [hp, hq]
      · exact h2 (by omega) k (by omega)
    | false =>
      cases hq : q m with
      | true =>
        simp only [List.filter_cons, hp, hq, if_true, List.filter_nil, List.length_singleton, Bool.false_eq_true, if_false, List.length_nil]
        exact ⟨by omega, fun he => by omega⟩
      | false =>
        simp only [List.filter_cons, hp, hq, List.filter_nil, Bool.false_eq_true, if_false, List.length_nil]
        refine ⟨by omega, fun he k hk => ?_⟩
        by_cases hkm : k = m
        · subst hkm; rw [hp, hq]
        · exact h2 (by omega) k (by omega)
/-- how many are in. -/
def cntB (o : List Bool) : Nat := ((List.range o.length).filter (bt o)).length
theorem iter_closed {l : List St} (hr : RightM l) (o : List Bool) (hl : o.length = l.length) : ∀ j, Cl l (iterC l j o) ∨ j ≤ cntB (iterC l j o)
  | 0 => .inr (Nat.zero_le _)
  | j + 1 => by
    have hlj := iterC_len l o j
    rw [iterC]
    rcases iter_closed hr o hl j with h | h
    · left; rw [pass_closed hr h]; exact h
    · generalize iterC l j o = q at *
      have hle := filt_le (p := bt q) (q := bt (passC l q l.length)) (fun k hk => passC_mono hk _) l.length
      have e1 : cntB q = ((List.range l.length).filter (bt q)).length := by unfold cntB; rw [hlj, hl]
      have e2 : cntB (passC l q l.length) = ((List.range l.length).filter (bt (passC l q l.length))).length := by unfold cntB; rw [passC_len, hlj, hl]
      by_cases he : cntB q = cntB (passC l q l.length)
      · left
        rw [e1, e2] at he
        have hq : q = passC l q l.length := bt_ext (by rw [passC_len]) fun k hk => hle.2 he k (by omega)
        rw [← hq]
        intro k hk y hn
        rw [hq]
        exact pass_next hr (by omega) hk hn
      · right
        rw [e1] at h
        rw [e1, e2] at he
        rw [e2]
        omega
theorem closure_closed {l : List St} (hr : RightM l) (o : List Bool) (hl : o.length = l.length) : Cl l (closureS l o) := by
  rcases iter_closed hr o hl l.length with h | h
  · exact h
  · intro k hk y hn
    show bt (iterC l l.length o) y = true
    have hlj := iterC_len l o l.length
    generalize iterC l l.length o = q at *
    have hle := filt_le (p := bt q) (q := fun _ => true) (fun _ _ => rfl) l.length
    have e1 : cntB q = ((List.range l.length).filter (bt q)).length := by unfold cntB; rw [hlj, hl]
    have e2 : ((List.range l.length).filter fun _ => true).length = l.length := by
      rw [List.filter_eq_self.2 (fun _ _ => rfl), List.length_range]
    rw [e1] at h
    rw [e2] at hle
    obtain ⟨s, h1, h2, h3⟩ := hn
    have hrs := hr s (List.mem_of_getElem? h1)
    have ho := hrs.2.1 (by omega)
    have ht := hrs.2.2 h2
    exact hle.2 (by omega) y (by rcases h3 with h3 | h3 <;> omega)
theorem iter_mono {l : List St} {o : List Bool} {x : Nat} (h : bt o x = true) : ∀ j, bt (iterC l j o) x = true
  | 0 => h
  | j + 1 => by rw [iterC]; exact passC_mono (iter_mono h j) _
theorem stepC_sound {l : List St} (hr : RightM l) {o : List Bool} {Q : Nat → Prop} (hq : ∀ x, bt o x = true → Q x) (hn : ∀ x y, Q x → nxt l x y → Q y) (k : Nat) : ∀ x, bt (stepC l o k) x = true → Q x := by
  intro x hx
  unfold stepC at hx
  split at hx
  · rename_i s hs
    split at hx
    · rename_i h
      simp only [Bool.and_eq_true, decide_eq_true_eq] at h
      have hrs := hr s (List.mem_of_getElem? hs)
      have h1 := hrs.2.1 (by omega)
      have h2 := hrs.2.2 h.2
      rcases bt_set.1 hx with ⟨rfl, _⟩ | hx
      · exact hn k _ (hq k h.1) ⟨s, hs, h.2, .inr (by omega)⟩
      · rcases bt_set.1 hx with ⟨rfl, _⟩ | hx
        · exact hn k _ (hq k h.1) ⟨s, hs, h.2, .inl (by omega)⟩
        · exact hq x hx
    · exact hq x hx
  · exact hq x hx
theorem passC_sound {l : List St} (hr : RightM l) {o : List Bool} {Q : Nat → Prop} (hq : ∀ x, bt o x = true → Q x) (hn : ∀ x y, Q x → nxt l x y → Q y) : ∀ k x, bt (passC l o k) x = true → Q x
  | 0 => hq
  | k + 1 => by rw [passC_succ]; exact stepC_sound hr (passC_sound hr hq hn k) hn k
theorem iter_sound {l : List St} (hr : RightM l) {o : List Bool} {Q : Nat → Prop} (hq : ∀ x, bt o x = true → Q x) (hn : ∀ x y, Q x → nxt l x y → Q y) : ∀ j x, bt (iterC l j o) x = true → Q x
  | 0 => hq
  | j + 1 => by rw [iterC]; exact passC_sound hr (iter_sound hr hq hn j) hn _
/-- what the document's closure has. -/
theorem closure_mem {l : List St} (hr : RightM l) (o : List Bool) (hl : o.length = l.length) (x : Nat) : bt (closureS l o) x = true ↔ ∃ k, bt o k = true ∧ Rch l k x := by
  constructor
  · exact iter_sound hr (Q := fun x => ∃ k, bt o k = true ∧ Rch l k x) (fun x hx => ⟨x, hx, .refl⟩) (fun x y ⟨k, h1, h2⟩ hn => ⟨k, h1, h2.step hn⟩) l.length x
  · rintro ⟨k, h1, h2⟩
    have hc := closure_closed hr o hl
    induction h2 with
    | refl => exact iter_mono h1 _
    | step _ hn ih => exact hc _ ih _ hn
theorem next_mem {l : List St} (hr : RightM l) (cur : List Bool) (c : Int) (y : Nat) : ∀ k, k ≤ l.length → (bt (nextC l cur c k) y = true ↔ ∃ j, j < k ∧ bt cur j = true ∧ tk l c j y)
  | 0, _ => by
    constructor
    · intro h
      have : nextC l cur c 0 = List.replicate l.length false := by simp [nextC]
      rw [this] at h
      have hy := bt_lt h
      simp only [List.length_replicate] at hy
      simp [bt, hy] at h
    · rintro ⟨j, h, _⟩; omega
  | k + 1, hk => by
    have ih := next_mem hr cur c y k (by omega)
    have hlen := nextC_len l cur c k
    have hkl : k < l.length := by omega
    have hs : l[k]? = some l[k] := List.getElem?_eq_getElem hkl
    have hrs := hr l[k] (List.getElem_mem _)
    have htk : tk l c k y ↔ l[k].kind = 1 ∧ inS c l[k].no l[k].sp = true ∧ l[k].one = (y : Nat) := by
      constructor
      · rintro ⟨s, h1, h2⟩
        rw [hs] at h1; cases h1; exact h2
      · intro h; exact ⟨_, hs, h⟩
    rw [nextC_succ]
    unfold stepN
    rw [hs]
    dsimp only
    generalize l[k] = s at *
    constructor
    · intro h
      split at h
      · rename_i hc
        simp only [Bool.and_eq_true, decide_eq_true_eq] at hc
        rcases bt_set.1 h with ⟨h1, _⟩ | h
        · exact ⟨k, by omega, hc.1.1, htk.2 ⟨hc.1.2, hc.2, by have := hrs.2.1 (by omega); omega⟩⟩
        · obtain ⟨j, h1, h2⟩ := ih.1 h; exact ⟨j, by omega, h2⟩
      · obtain ⟨j, h1, h2⟩ := ih.1 h; exact ⟨j, by omega, h2⟩
    · rintro ⟨j, h1, h2, h3⟩
      by_cases hj : j = k
      · subst hj
        obtain ⟨q1, q2, q3⟩ := htk.1 h3
        rw [h2, decide_eq_true q1, q2]
        rw [if_pos (show (true && true && true) = true from rfl)]
        have := hrs.2.1 (by omega)
        exact bt_set.2 (.inl ⟨by omega, by omega⟩)
      · have := ih.2 ⟨j, by omega, h2, h3⟩
        split
        · exact bt_set.2 (.inr this)
        · exact this
/-- the two say the same. -/
def Sim (o : List Nat) (cur : List Bool) : Prop := ∀ x, x ∈ o ↔ bt cur x = true
theorem Sim.halts {l : List St} {o : List Nat} {cur : List Bool} (h : Sim o cur) (hl : cur.length = l.length) : haltS l o = haltB l cur := by
  unfold haltS haltB
  rw [Bool.eq_iff_iff, List.any_eq_true, List.any_eq_true]
  constructor
  · rintro ⟨x, h1, h2⟩
    have := (h x).1 h1
    exact ⟨x, List.mem_range.2 (by have := bt_lt this; omega), by rw [this, h2]; rfl⟩
  · rintro ⟨x, h1, h2⟩
    simp only [Bool.and_eq_true] at h2
    exact ⟨x, (h x).2 h2.1, h2.2⟩
theorem nodup_sub : ∀ (o q : List Nat), o.Nodup → (∀ x ∈ o, x ∈ q) → o.length ≤ q.length
  | [], q, _, _ => Nat.zero_le _
  | x :: r, q, h1, h2 => by
    have hx := h2 x (by simp)
    rw [List.nodup_cons] at h1
    have ih := nodup_sub r (q.erase x) h1.2 fun y hy => by
      have hne : y ≠ x := fun e => h1.1 (e ▸ hy)
      exact (List.mem_erase_of_ne hne).2 (h2 y (by simp [hy]))
    rw [List.length_erase_of_mem hx] at ih
    have := List.length_pos_of_mem hx
    rw [List.length_cons]
    omega
theorem Sim.count {o : List Nat} {cur : List Bool} (h : Sim o cur) (hnd : o.Nodup) : o.length = cntB cur := by
  unfold cntB
  apply Nat.le_antisymm
  · refine nodup_sub _ _ hnd fun x hx => ?_
    have := (h x).1 hx
    exact List.mem_filter.2 ⟨List.mem_range.2 (bt_lt this), this⟩
  · refine nodup_sub _ _ (List.nodup_range.filter _) fun x hx => ?_
    exact (h x).2 (List.mem_filter.1 hx).2
/-- one place, as the program has it, and as the document has it. -/
def SimP (n : Nat) (p : Nat × List Nat) (q : Nat × List Bool) : Prop := p.1 = q.1 ∧ p.2.Nodup ∧ q.2.length = n ∧ Sim p.2 q.2
theorem run_sim {l : List St} (hr : RightM l) {s : List UInt8} {k : Nat} {o : List Nat} {os : List (Nat × List Nat)} (h : RunRel l s k o os) : ∀ (cur : List Bool) (bs : List (Nat × List Bool)), cur.length = l.length → Sim o cur → RunB l s k cur bs → Two (SimP l.length) os bs := by
  induction h with
  | @done k o h =>
    intro cur bs hl hs hb
    cases hb with
    | done => exact .nil
    | bad => exact .nil
    | step h2 => omega
  | @bad k o h he =>
    intro cur bs hl hs hb
    cases hb with
    | done => exact .nil
    | bad => exact .nil
    | step h2 he2 => exact absurd he2 he
  | @step k o o' os h he hnd hlt hm hr' ih =>
    intro cur bs hl hs hb
    cases hb with
    | done h2 => omega
    | bad h2 he2 => exact absurd he he2
    | step h2 he2 hb2 =>
      have hnl := nextC_len l cur (nextU (s.drop k)).1 l.length
      have hsim : Sim o' (closureS l (nextC l cur (nextU (s.drop k)).1 l.length)) := fun x => by
        rw [hm x, closure_mem hr _ hnl]
        constructor
        · rintro ⟨j, h1, y, h2, h3⟩
          have hj := (hs j).1 h1
          exact ⟨y, (next_mem hr cur _ y l.length (Nat.le_refl _)).2 ⟨j, by have := bt_lt hj; omega, hj, h2⟩, h3⟩
        · rintro ⟨y, h1, h3⟩
          obtain ⟨j, h4, h5, h6⟩ := (next_mem hr cur _ y l.length (Nat.le_refl _)).1 h1
          exact ⟨j, (hs j).2 h5, y, h6, h3⟩
      have hcl : (closureS l (nextC l cur (nextU (s.drop k)).1 l.length)).length = l.length := by rw [closureS_len, hnl]
      exact .cons ⟨rfl, hnd, hcl, hsim⟩ (ih _ _ hcl hsim hb2)
theorem run_last {l : List St} {s : List UInt8} {k : Nat} {o : List Nat} {os : List (Nat × List Nat)} (h : RunRel l s k o os) : k ≤ s.length → (runesU (s.drop k)).isSome = true → (((k, o) :: os).getLast (by simp)).1 = s.length := by
  induction h with
  | @done k o h => intro h1 _; show k = s.length; omega
  | @bad k o h he => intro _ h2; rw [runesU_step h, dif_neg he] at h2; cases h2
  | @step k o o' os h he hnd hlt hm hr ih =>
    intro h1 h2
    rw [runesU_step h, dif_pos he] at h2
    have hpos := nextU_pos he
    simp only [List.length_drop] at hpos
    rw [List.getLast_cons (by simp)]
    refine ih (by omega) ?_
    cases hd : runesU (s.drop (k + (nextU (s.drop k)).2.1)) with
    | none => rw [hd] at h2; cases h2
    | some x => rfl
end Go.Proofs.Ytoblikhnbddfmaa
