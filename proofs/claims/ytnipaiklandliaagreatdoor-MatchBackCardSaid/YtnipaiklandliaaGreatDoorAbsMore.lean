import Derived.Test.YtnipaiklandliaaGreatDoorAbsSet
set_option linter.unusedSimpArgs false
namespace Go.Abs
open Go
section
variable {P : Program} {t : TypeId} {xo yo : Operand} {k : IntKind}
theorem bin_quo {a b : Int} (hb : b ≠ 0) : aBin P .quo t xo yo (.int k a) (.int k b) = some (.int k (k.wrap (a.tdiv b))) := by
 simp only [aBin, nilNe_int, Bool.false_eq_true, if_false]
 simp [toV, toV1, toV0, eqGuard, binOp, Op.intDiv, hb]; rfl
theorem bin_rem {a b : Int} (hb : b ≠ 0) : aBin P .rem t xo yo (.int k a) (.int k b) = some (.int k (a.tmod b)) := by
 simp only [aBin, nilNe_int, Bool.false_eq_true, if_false]
 simp [toV, toV1, toV0, eqGuard, binOp, Op.intDiv, hb]; rfl
theorem bin_quo_nat {a b : Nat} (hb : 0 < b) : aBin P .quo t xo yo (.int k a) (.int k b) = some (.int k (k.wrap ((a / b : Nat)))) := by
 rw [bin_quo (by omega)]; rfl
theorem bin_rem_nat {a b : Nat} (hb : 0 < b) : aBin P .rem t xo yo (.int k a) (.int k b) = some (.int k ((a % b : Nat))) := by
 rw [bin_rem (by omega)]; rfl
end
theorem str_mid {P : Program} {t : TypeId} (hu : P.underlying t = some .string) (s : List UInt8) {k k' : IntKind} {a b : Nat} (hab : a ≤ b) (hb : b ≤ s.length) :
  aSlice P t (.str s) (some (.int k a)) (some (.int k' b)) none = some (.str ((s.drop a).take (b - a))) := by
 simp [aSlice, hu, aBounds, optInt, hab, hb]
theorem str_from {P : Program} {t : TypeId} (hu : P.underlying t = some .string) (s : List UInt8) {k : IntKind} {a : Nat} (hb : a ≤ s.length) :
  aSlice P t (.str s) (some (.int k a)) none none = some (.str (s.drop a)) := by
 simp [aSlice, hu, aBounds, optInt, hb]
 rw [List.take_of_length_le (by simp)]
theorem str_upto {P : Program} {t : TypeId} (hu : P.underlying t = some .string) (s : List UInt8) {k : IntKind} {b : Nat} (hb : b ≤ s.length) :
  aSlice P t (.str s) none (some (.int k b)) none = some (.str (s.take b)) := by
 simp [aSlice, hu, aBounds, optInt, hb]
theorem str_at {P : Program} {t : TypeId} (hu : P.underlying t = some .string) (s : List UInt8) {k : IntKind} {i : Nat} (hi : i < s.length) :
  aIndex P t (.str s) (.int k i) = some (.int .u8 (s[i].toNat : Int)) := by simp [aIndex, asNat, hu, hi]
theorem str_len {P : Program} {t : TypeId} (hu : P.underlying t = some .string) (s : List UInt8) (H : Heap) : aLen P H t (.str s) = some (.int .i64 s.length) := by simp [aLen, hu]
theorem str_add {s u : List UInt8} (h : s.length + u.length ≤ 9223372036854775807) : aStr .add s u = some (.str (s ++ u)) := by
 unfold aStr; simp only; rw [if_neg (by omega)]
theorem str_eql (s u : List UInt8) : aStr .eql s u = some (.bool (s == u)) := rfl
section
variable {C : Cfg} {prot : Nat} {f : FuncId} {args args' : List AV} {H : Heap} {fn : Func} {sn : Bool}
theorem aCall_pure {n : Nat} {c : Code} {r : AV × Option Heap} (hp : C.pure f = true) (hfn : C.P.funcs[f]? = some fn) (hb : fn.body = some c) (h : aCall C (n + 1) prot f args H = some r) :
  C.ok f = true ∧ prot ≤ H.length ∧ ∃ args' sn r1 H1 r2, snap H args = some (args', sn) ∧ aBody C.P (aCall C n) (iter n) H.length fn c args' H = some (r1, H1) ∧ frP H1 H.length n r1 = some r2 ∧ (sn = false → r = (r2, none)) := by
 simp only [aCall, hp, Bool.true_or, if_true] at h
 split at h
 ·cases h
 rename_i hok
 simp only [hfn, Option.bind_some, hb] at h
 split at h
 case isFalse => cases h
 rename_i hpl
 simp only [Option.bind_eq_some_iff] at h
 obtain ⟨⟨a, sn⟩, hs, ⟨r1, H1⟩, hbd, r2, hf, h⟩ := h
 refine ⟨by simpa using hok, hpl, a, sn, r1, H1, r2, hs, hbd, hf, ?_⟩
 rintro rfl
 simp at h
 exact h.symm
theorem lim_snap (hp : C.pure f = true) (hfn : C.P.funcs[f]? = some fn) (hb : fn.body.isSome = true) (hs : snap H args = some (args', sn)) (hs' : snap H args' = some (args', false)) {r : AV} (h : aLim C prot f args' H = some (r, none)) (hf : flat r = true) :
  aLim C prot f args H = some (r, none) := by
 obtain ⟨c, hc⟩ := Option.isSome_iff_exists.1 hb
 obtain ⟨n0, h0⟩ := aLim_ev h
 refine aLim_of ⟨n0 + 1, fun n hn => ?_⟩
 obtain ⟨n, rfl⟩ : ∃ j, n = j + 1 := ⟨n - 1, by omega⟩
 obtain ⟨hok, hpl, a, s', r1, H1, r2, h1, h2, h3, h4⟩ := aCall_pure hp hfn hc (h0 (n + 1) (by omega))
 rw [hs'] at h1
 cases h1
 obtain rfl : r = r2 := by have := h4 rfl; simpa using this
 simp only [aCall, hok, Bool.true_eq_false, if_false, hfn, Option.bind_some, hc, hp, if_true, hpl, hs, h2, h3, hf]
 cases sn <;> rfl
theorem lim_eat {Hk : Heap} (hp : C.pure f = true) (he : C.eats f = true) (hfn : C.P.funcs[f]? = some fn) (hb : fn.body.isSome = true) (hs : snap H args = some (args', true)) (hk : killA prot H args = some Hk)
  (hs1 : snap H args' = some (args', false)) (hs2 : snap Hk args' = some (args', false)) (hl : Hk.length = H.length) {r r' : AV} (h1 : aLim C prot f args' H = some (r', none)) (h2 : aLim C prot f args' Hk = some (r, none)) (hf : flat r' = false) :
  aLim C prot f args H = some (r, some Hk) := by
 obtain ⟨c, hc⟩ := Option.isSome_iff_exists.1 hb
 obtain ⟨n0, h0⟩ := aLim_ev h1
 obtain ⟨n1, h01⟩ := aLim_ev h2
 refine aLim_of ⟨n0 + n1 + 1, fun n hn => ?_⟩
 obtain ⟨n, rfl⟩ : ∃ j, n = j + 1 := ⟨n - 1, by omega⟩
 obtain ⟨hok, hpl, a, s', r1, H1, r2, g1, g2, g3, g4⟩ := aCall_pure hp hfn hc (h0 (n + 1) (by omega))
 obtain ⟨_, _, b, s'', r3, H3, r4, k1, k2, k3, k4⟩ := aCall_pure hp hfn hc (h01 (n + 1) (by omega))
 rw [hs1] at g1
 cases g1
 rw [hs2] at k1
 cases k1
 obtain rfl : r' = r2 := by have := g4 rfl; simpa using this
 obtain rfl : r = r4 := by have := k4 rfl; simpa using this
 rw [hl] at k2 k3
 simp only [aCall, hok, Bool.true_eq_false, if_false, hfn, Option.bind_some, hc, hp, if_true, hpl, hs, g2, g3, hf, he, Bool.false_eq_true, hk, k2, k3, Option.map_some]
end
theorem set_app {b : Nat} {H : Heap} (h : b < H.length) (l : List Blk) (x : Blk) : (H ++ l).set b x = H.set b x ++ l := List.set_append_left _ _ h
theorem hput_app {p b v off : Nat} {H : Heap} (h : b < H.length) (l : List Blk) (xs : List AV) : hput p (H ++ l) b v off xs = (hput p H b v off xs).map fun K => K ++ l := by
 unfold hput
 rw [hget_old h]
 cases hget H b v with
 | none => rfl
 | some cs =>
  simp only [Option.bind_some]
  split
  ·rw [set_app h]; rfl
  ·rfl
theorem hget_set_at {b v : Nat} {H : Heap} {cs : List AV} (h : b < H.length) : hget (H.set b (.cells v cs)) b v = some cs := by rw [hget_set_same h, if_pos rfl]
theorem set_self {b v : Nat} {H : Heap} {cs : List AV} (h : hget H b v = some cs) : H.set b (.cells v cs) = H := by
 refine List.ext_getElem? fun k => ?_
 by_cases hk : k = b
 ·subst hk; rw [List.getElem?_set_self (hget_lt h)]; exact (alive_of_hget h).symm
 ·rw [List.getElem?_set_ne (Ne.symm hk)]
structure Kp (H0 : Heap) (b : Nat) (c : List AV) (H : Heap) : Prop where
 lt : b < H0.length
 ok : trimOk H0 H = true
 take : H.take H0.length = H0.set b (.cells 0 c)
 get : hget H b 0 = some c
theorem Kp.len {H0 : Heap} {b : Nat} {c : List AV} {H : Heap} (h : Kp H0 b c H) : H0.length ≤ H.length := (trimOk_at.1 h.ok).1
theorem Kp.start {H0 : Heap} {b : Nat} {c : List AV} (h : hget H0 b 0 = some c) : Kp H0 b c H0 := ⟨hget_lt h, trimOk_refl _, by rw [List.take_length, set_self h], h⟩
theorem Kp.app {H0 : Heap} {b : Nat} {c : List AV} {H : Heap} (h : Kp H0 b c H) (l : List Blk) : Kp H0 b c (H ++ l) :=
 ⟨h.lt, trimOk_app h.ok l, by rw [List.take_append_of_le_length h.len]; exact h.take, hget_mono h.get l⟩
theorem Kp.new {H0 : Heap} {b : Nat} {c : List AV} {H : Heap} (h : Kp H0 b c H) {b' : Nat} (hb : H0.length ≤ b') (k : Blk) : Kp H0 b c (H.set b' k) :=
 ⟨h.lt, trimOk_new h.ok hb k, by rw [take_set_new hb]; exact h.take, by rw [hget_set_ne (by have := h.lt; omega)]; exact h.get⟩
theorem Kp.put {H0 : Heap} {b : Nat} {c : List AV} {H : Heap} (h : Kp H0 b c H) {c' : List AV} (hb : AV.blwL H0.length c' = true) : Kp H0 b c' (H.set b (.cells 0 c')) :=
 ⟨h.lt, trimOk_set h.ok hb, by rw [List.take_set, h.take, List.set_set], hget_set_at (Nat.lt_of_lt_of_le h.lt h.len)⟩
theorem Kp.fin {C : Cfg} {prot : Nat} {res : List ResultVar} {fr : List AV} {H0 : Heap} {b : Nat} {c : List AV} {H : Heap} (h : Kp H0 b c H) {l : List AV} {r : AV} (h1 : aResults C.P fr H res = some l) (hf : Frz H H0.length (packR l) r) :
  Fin ⟨C, prot, res, .trim H0⟩ fr H (r, some (H0.set b (.cells 0 c))) := Fin_trim h1 hf h.ok h.take
end Go.Abs

