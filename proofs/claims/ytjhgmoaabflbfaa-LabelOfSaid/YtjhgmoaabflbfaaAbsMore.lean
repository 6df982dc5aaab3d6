import Derived.Test.YtjhgmoaabflbfaaAbsSet
/-! More rules. -/
set_option linter.unusedSimpArgs false
namespace Go.Abs
open Go
section
variable {P : Program} {t : TypeId} {xo yo : Operand} {k : IntKind}
theorem bin_quo {a b : Int} (hb : b ≠ 0) : aBin P .quo t xo yo (.int k a) (.int k b) = some (.int k (k.wrap (a.tdiv b))) := by
  simp only [aBin, nilNe_int, Bool.false_eq_true, if_false]
  simp [toV, toV1, toV0, eqGuard, binOp, Op.intDiv, hb]; rfl
theorem bin_rem {a b : Int} (hb : b ≠ 0) : aBin P .rem t xo yo (.int k a) (.int k b) = some (.int k (a.tmod b)) := by
  simp only [aBin, nilNe_int, Bool.false_eq_true, if_false]
  simp [toV, toV1, toV0, eqGuard, binOp, Op.intDiv, hb]; rfl
theorem bin_quo_nat {a b : Nat} (hb : 0 < b) : aBin P .quo t xo yo (.int k a) (.int k b) = some (.int k (k.wrap ((a / b : Nat)))) := by
  rw [bin_quo (by omega)]; rfl
theorem bin_rem_nat {a b : Nat} (hb : 0 < b) : aBin P .rem t xo yo (.int k a) (.int k b) = some (.int k ((a % b : Nat))) := by
  rw [bin_rem (by omega)]; rfl
end
theorem str_mid {P : Program} {t : TypeId} (hu : P.underlying t = some .string) (s : List UInt8) {k k' : IntKind} {a b : Nat} (hab : a ≤ b) (hb : b ≤ s.length) :
    aSlice P t (.str s) (some (.int k a)) (some (.int k' b)) none = some (.str ((s.drop a).take (b - a))) := by
  simp [aSlice, hu, aBounds, optInt, hab, hb]
theorem str_from {P : Program} {t : TypeId} (hu : P.underlying t = some .string) (s : List UInt8) {k : IntKind} {a : Nat} (hb : a ≤ s.length) :
    aSlice P t (.str s) (some (.int k a)) none none = some (.str (s.drop a)) := by
  simp [aSlice, hu, aBounds, optInt, hb]
  rw [List.take_of_length_le (by simp)]
theorem str_upto {P : Program} {t : TypeId} (hu : P.underlying t = some .string) (s : List UInt8) {k : IntKind} {b : Nat} (hb : b ≤ s.length) :
    aSlice P t (.str s) none (some (.int k b)) none = some (.str (s.take b)) := by
  simp [aSlice, hu, aBounds, optInt, hb]
theorem str_at {P : Program} {t : TypeId} (hu : P.underlying t = some .string) (s : List UInt8) {k : IntKind} {i : Nat} (hi : i < s.length) :
    aIndex P t (.str s) (.int k i) = some (.int .u8 (s[i].toNat : Int)) := by simp [aIndex, asNat, hu, hi]
theorem str_len {P : Program} {t : TypeId} (hu : P.underlying t = some .string) (s : List UInt8) (H : Heap) : aLen P H t (.str s) = some (.int .i64 s.length) := by simp [aLen, hu]
theorem str_add {s u : List UInt8} (h : s.length + u.length ≤ 9223372036854775807) : aStr .add s u = some (.str (s ++ u)) := by
  unfold aStr; simp only; rw [if_neg (by omega)]
theorem str_eql (s u : List UInt8) : aStr .eql s u = some (.bool (s == u)) := rfl
theorem str_neq (s u : List UInt8) : aStr .neq s u = some (.bool !(s == u)) := rfl

-- calls with rows, by what they are with trees
section
variable {C : Cfg} {prot : Nat} {f : FuncId} {args args' : List AV} {H : Heap} {fn : Func} {sn : Bool}
theorem S1_any {X : Ctx} {κ : List K} {fr : List AV} {H : Heap} {r : AV × Option Heap} (ops : Array Oper) (l : List Oper) (d : Option Tmp) (v : AV) (h : Option Heap) : S1 X ops l κ fr H d (some (v, h)) r ↔ S X ops l κ (fput fr d v) (h.getD H) r := by
  cases h with
  | none => exact S1_none ops l d v
  | some H' => exact S1_some ops l d v H'
theorem aCall_pure {n : Nat} {c : Code} {r : AV × Option Heap} (hp : C.pure f = true) (hfn : C.P.funcs[f]? = some fn) (hb : fn.body = some c) (h : aCall C (n + 1) prot f args H = some r) :
    C.ok f = true ∧ prot ≤ H.length ∧ ∃ args' sn r1 H1 r2, snap H args = some (args', sn) ∧ aBody C.P (aCall C n) (iter n) H.length fn c args' H = some (r1, H1) ∧ frP H1 H.length n r1 = some r2 ∧ (sn = false → r = (r2, none)) := by
  simp only [aCall] at h
  split at h
  · cases h
  rename_i hok
  simp only [hfn, Option.bind_some, hb, hp, if_true] at h
  split at h
  case isFalse => cases h
  rename_i hpl
  simp only [Option.bind_eq_some_iff] at h
  obtain ⟨⟨a, sn⟩, hs, ⟨r1, H1⟩, hbd, r2, hf, h⟩ := h
  refine ⟨by simpa using hok, hpl, a, sn, r1, H1, r2, hs, hbd, hf, ?_⟩
  rintro rfl
  simp at h
  exact h.symm
theorem lim_snap (hp : C.pure f = true) (hfn : C.P.funcs[f]? = some fn) (hb : fn.body.isSome = true) (hs : snap H args = some (args', sn)) (hs' : snap H args' = some (args', false)) {r : AV} (h : aLim C prot f args' H = some (r, none)) (hf : flat r = true) :
    aLim C prot f args H = some (r, none) := by
  obtain ⟨c, hc⟩ := Option.isSome_iff_exists.1 hb
  obtain ⟨n0, h0⟩ := aLim_ev h
  refine aLim_of ⟨n0 + 1, fun n hn => ?_⟩
  obtain ⟨n, rfl⟩ : ∃ j, n = j + 1 := ⟨n - 1, by omega⟩
  obtain ⟨hok, hpl, a, s', r1, H1, r2, h1, h2, h3, h4⟩ := aCall_pure hp hfn hc (h0 (n + 1) (by omega))
  rw [hs'] at h1
  cases h1
  obtain rfl : r = r2 := by have := h4 rfl; simpa using this
  simp only [aCall, hok, Bool.true_eq_false, if_false, hfn, Option.bind_some, hc, hp, if_true, hpl, hs, h2, h3, hf]
  cases sn <;> rfl
theorem lim_eat {Hk : Heap} (hp : C.pure f = true) (he : C.eats f = true) (hfn : C.P.funcs[f]? = some fn) (hb : fn.body.isSome = true) (hs : snap H args = some (args', true)) (hk : killA prot H args = some Hk)
    (hs1 : snap H args' = some (args', false)) (hs2 : snap Hk args' = some (args', false)) (hl : Hk.length = H.length) {r r' : AV} (h1 : aLim C prot f args' H = some (r', none)) (h2 : aLim C prot f args' Hk = some (r, none)) (hf : flat r' = false) :
    aLim C prot f args H = some (r, some Hk) := by
  obtain ⟨c, hc⟩ := Option.isSome_iff_exists.1 hb
  obtain ⟨n0, h0⟩ := aLim_ev h1
  obtain ⟨n1, h01⟩ := aLim_ev h2
  refine aLim_of ⟨n0 + n1 + 1, fun n hn => ?_⟩
  obtain ⟨n, rfl⟩ : ∃ j, n = j + 1 := ⟨n - 1, by omega⟩
  obtain ⟨hok, hpl, a, s', r1, H1, r2, g1, g2, g3, g4⟩ := aCall_pure hp hfn hc (h0 (n + 1) (by omega))
  obtain ⟨_, _, b, s'', r3, H3, r4, k1, k2, k3, k4⟩ := aCall_pure hp hfn hc (h01 (n + 1) (by omega))
  rw [hs1] at g1
  cases g1
  rw [hs2] at k1
  cases k1
  obtain rfl : r' = r2 := by have := g4 rfl; simpa using this
  obtain rfl : r = r4 := by have := k4 rfl; simpa using this
  rw [hl] at k2 k3
  simp only [aCall, hok, Bool.true_eq_false, if_false, hfn, Option.bind_some, hc, hp, if_true, hpl, hs, g2, g3, hf, he, Bool.false_eq_true, hk, k2, k3, Option.map_some]
end
end Go.Abs
