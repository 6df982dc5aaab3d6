import Derived.Test.YtimbhlbkidmplaaDoorJ5
/-! The law JvalSame on what came in. -/
set_option linter.unusedSimpArgs false
namespace Go.Proofs.YtimbhlbkidmplaaDoor.jvalSame
open Go Go.Abs AbsSeat Ty
theorem bk_pos : ∀ (v : AV), 1 ≤ bk v ∨ ∃ cs, v = .agg cs := fun v => by cases v <;> first | (exact .inr ⟨_, rfl⟩) | (left; simp only [bk]; omega)
theorem bkL_mem {x : AV} : ∀ {l : List AV}, x ∈ l → bk x ≤ bkL l
  | y :: r, h => by
    simp only [bkL]
    rcases List.mem_cons.1 h with rfl | h
    · omega
    · have := bkL_mem h; omega
theorem list_of {α : Type} {enc : α → AV} {good : α → Prop} : ∀ (es : List AV), (∀ y ∈ es, ∃ a, y = enc a ∧ good a) → ∃ l : List α, es = l.map enc ∧ ∀ a ∈ l, good a
  | [], _ => ⟨[], rfl, fun a h => nomatch h⟩
  | y :: r, h => by
    obtain ⟨a, rfl, ha⟩ := h y (by simp)
    obtain ⟨l, rfl, hl⟩ := list_of r fun z hz => h z (by simp [hz])
    refine ⟨a :: l, rfl, fun b hb => ?_⟩
    rcases List.mem_cons.1 hb with rfl | hb
    · exact ha
    · exact hl b hb
theorem val_of_n : ∀ (n : Nat) (y : AV), bk y ≤ n → HasTV Tryd.prog 41 y → ∃ a, y = encJ a ∧ Fit 9223372036854775807 a := by
  intro n
  induction n with
  | zero =>
    intro y hb h
    obtain ⟨ps, rfl, hf⟩ := h.struct Tryd.underlying41
    obtain ⟨p0, r0, rfl, h0, hf⟩ := hf.inv
    obtain ⟨k, rfl, -⟩ := h0.int1 Tryd.underlying3
    simp [bk, bkL] at hb
  | succ n ih =>
    intro y hb h
    obtain ⟨ps, rfl, hf⟩ := h.struct Tryd.underlying41
    obtain ⟨p0, r0, rfl, h0, hf⟩ := hf.inv
    obtain ⟨p1, r1, rfl, h1, hf⟩ := hf.inv
    obtain ⟨p2, r2, rfl, h2, hf⟩ := hf.inv
    obtain ⟨p3, r3, rfl, h3, hf⟩ := hf.inv
    obtain ⟨p4, r4, rfl, h4, hf⟩ := hf.inv
    obtain ⟨p5, r5, rfl, h5, hf⟩ := hf.inv
    obtain rfl := hf.done
    obtain ⟨k, rfl, -⟩ := h0.int1 Tryd.underlying3
    obtain ⟨b, rfl⟩ := h1.bool1 Tryd.underlying4
    obtain ⟨i, rfl, -⟩ := h2.int1 Tryd.underlying2
    obtain ⟨t, rfl, -⟩ := h3.str1 Tryd.underlying9
    have hi : ∃ (tag : Nat) (l : List JV), p4 = [tg tag (l.map encJ)] ∧ l.length ≤ 9223372036854775807 ∧ ∀ a ∈ l, Fit 9223372036854775807 a := by
      rcases h4.slice1 Tryd.underlying39 with rfl | ⟨es, rfl, hl, hes⟩
      · exact ⟨0, [], rfl, by simp, fun a h => nomatch h⟩
      · obtain ⟨l, rfl, hg⟩ := list_of (enc := encJ) (good := Fit 9223372036854775807) es fun y hy => ih y (by
          have := bkL_mem hy
          simp only [List.flatten_cons, List.flatten_nil, List.append_nil, List.cons_append, List.nil_append, bk, bkL] at hb
          omega) (hes y hy)
        exact ⟨2, l, rfl, by unfold maxLen at hl; simp at hl; omega, hg⟩
    have hk : ∃ (tag : Nat) (l : List (List UInt8)), p5 = [tg tag (l.map AV.str)] ∧ l.length ≤ 9223372036854775807 := by
      rcases h5.slice1 Tryd.underlying23 with rfl | ⟨es, rfl, hl, hes⟩
      · exact ⟨0, [], rfl, by simp⟩
      · obtain ⟨l, rfl, -⟩ := list_of (enc := AV.str) (good := fun _ => True) es fun y hy => by
          obtain ⟨s, rfl, -⟩ := (hes y hy).str Tryd.underlying9
          exact ⟨s, rfl, trivial⟩
        exact ⟨2, l, rfl, by unfold maxLen at hl; simp at hl; omega⟩
    obtain ⟨tag, l, rfl, hl, hg⟩ := hi
    obtain ⟨kt, ks, rfl, hkl⟩ := hk
    exact ⟨.mk k b i t tag l kt ks, by rw [encJ_mk]; rfl, .mk _ hl hkl hg⟩
theorem val_of (y : AV) (h : HasTV Tryd.prog 41 y) : ∃ a, y = encJ a ∧ Fit 9223372036854775807 a := val_of_n _ y (Nat.le_refl _) h
theorem abs (xs : List AV) (h : HasTs Tryd.prog Tryd.f5.params.toList xs) : ∃ k H', aCall cfg k 1 5 xs H0 = some (.bool true, H') := by
  rw [Tryd.params5] at h
  obtain ⟨x0, r0, rfl, h0, h⟩ := h.inv
  obtain ⟨x1, r1, rfl, h1, h⟩ := h.inv
  obtain rfl := h.done
  obtain ⟨a, rfl, ha⟩ := val_of x0 h0
  obtain ⟨b, rfl, hb⟩ := val_of x1 h1
  exact lim_call (sameLaw_ok a b ha hb 1 H0 (by decide))
end Go.Proofs.YtimbhlbkidmplaaDoor.jvalSame
