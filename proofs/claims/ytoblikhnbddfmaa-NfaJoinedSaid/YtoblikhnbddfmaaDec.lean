import Derived.Test.YtoblikhnbddfmaaUtf2
/-! The document's decoder of runes (by trying all lengths) is the program's: no program in sight. -/
set_option linter.unusedSimpArgs false
namespace Go.Proofs.Ytoblikhnbddfmaa
open Go Go.Abs

theorem bytesB2 : ∀ s : List UInt8, bytesOk (cellsOf encB s) = true ∧ bytesOf (cellsOf encB s) = some s
  | [] => ⟨rfl, rfl⟩
  | c :: r => by
    obtain ⟨h1, h2⟩ := bytesB2 r
    have e : cellsOf encB (c :: r) = .int .u8 c.toNat :: cellsOf encB r := by simp [cellsOf, encB, AV.cells]
    rw [e]
    have := c.toNat_lt
    constructor
    · simp [bytesOk, h1]; omega
    · simp [bytesOf, h2]
def leadI (n : Nat) : Int := if n = 2 then 192 else if n = 3 then 224 else if n = 4 then 240 else 0
def valGo : Int → List UInt8 → Int
  | v, [] => v
  | v, c :: r => valGo (64 * v + c.toNat - 128) r
/-- what bytes of so many would mean. -/
def valueU (b : List UInt8) (n : Nat) : Int := match b with
  | [] => 0
  | c :: r => valGo (c.toNat - leadI n) (r.take (n - 1))
def isI (v : Int) : Bool := decide (0 ≤ v) && (decide (v ≤ 1114111) && (decide (v < 55296) || decide (57343 < v)))
/-- a rune's bytes. -/
def putU (v : Int) : List UInt8 :=
  if isI v = false then [] else
  if v < 128 then [UInt8.ofNat v.toNat] else
  if v < 2048 then [UInt8.ofNat (192 + v.toNat / 64), UInt8.ofNat (128 + v.toNat % 64)] else
  if v < 65536 then [UInt8.ofNat (224 + v.toNat / 4096), UInt8.ofNat (128 + v.toNat / 64 % 64), UInt8.ofNat (128 + v.toNat % 64)] else
  [UInt8.ofNat (240 + v.toNat / 262144), UInt8.ofNat (128 + v.toNat / 4096 % 64), UInt8.ofNat (128 + v.toNat / 64 % 64), UInt8.ofNat (128 + v.toNat % 64)]
def matchN (b : List UInt8) (n : Nat) : Bool := isI (valueU b n) && putU (valueU b n) == b.take n

theorem isI_iff (v : Int) : isI v = true ↔ 0 ≤ v ∧ v ≤ 1114111 ∧ (v < 55296 ∨ 57343 < v) := by simp [isI]
theorem of_eq (n : Nat) (c : UInt8) (h : n < 256) : UInt8.ofNat n = c ↔ n = c.toNat := by
  rw [← UInt8.toNat_inj]
  have : (UInt8.ofNat n).toNat = n := by simp; omega
  rw [this]
theorem put_one {v : Int} (h : isI v = true) (h1 : v < 128) : putU v = [UInt8.ofNat v.toNat] := by simp [putU, h, h1]
theorem put_two {v : Int} (h : isI v = true) (h0 : 128 ≤ v) (h1 : v < 2048) : putU v = [UInt8.ofNat (192 + v.toNat / 64), UInt8.ofNat (128 + v.toNat % 64)] := by
  have : ¬ v < 128 := by omega
  simp [putU, h, h1, this]
theorem put_three {v : Int} (h : isI v = true) (h0 : 2048 ≤ v) (h1 : v < 65536) : putU v = [UInt8.ofNat (224 + v.toNat / 4096), UInt8.ofNat (128 + v.toNat / 64 % 64), UInt8.ofNat (128 + v.toNat % 64)] := by
  have h2 : ¬ v < 128 := by omega
  have h3 : ¬ v < 2048 := by omega
  simp [putU, h, h1, h2, h3]
theorem put_four {v : Int} (h : isI v = true) (h0 : 65536 ≤ v) : putU v = [UInt8.ofNat (240 + v.toNat / 262144), UInt8.ofNat (128 + v.toNat / 4096 % 64), UInt8.ofNat (128 + v.toNat / 64 % 64), UInt8.ofNat (128 + v.toNat % 64)] := by
  have h2 : ¬ v < 128 := by omega
  have h3 : ¬ v < 2048 := by omega
  have h4 : ¬ v < 65536 := by omega
  simp [putU, h, h2, h3, h4]
theorem put_len {v : Int} (h : isI v = true) : (putU v).length = if v < 128 then 1 else if v < 2048 then 2 else if v < 65536 then 3 else 4 := by
  simp only [putU, h, Bool.true_eq_false, if_false]
  repeat' split
  all_goals rfl

theorem match_one (c : UInt8) (r : List UInt8) : matchN (c :: r) 1 = true ↔ c.toNat < 128 := by
  have hv : valueU (c :: r) 1 = c.toNat := by simp [valueU, leadI, valGo]
  have hc := c.toNat_lt
  unfold matchN
  rw [hv]
  simp only [Bool.and_eq_true, beq_iff_eq, isI_iff, List.take_succ_cons, List.take_zero]
  constructor
  · rintro ⟨h1, h2⟩
    have hi : isI (c.toNat : Int) = true := (isI_iff _).2 h1
    have := congrArg List.length h2
    rw [put_len hi] at this
    split at this
    · omega
    · split at this <;> simp at this
      split at this <;> omega
  · intro h
    have hi : isI (c.toNat : Int) = true := (isI_iff _).2 (by omega)
    refine ⟨by omega, ?_⟩
    rw [put_one hi (by omega)]
    simp
theorem match_two (c d : UInt8) (r : List UInt8) : matchN (c :: d :: r) 2 = true ↔ (194 ≤ c.toNat ∧ c.toNat < 224) ∧ 128 ≤ d.toNat ∧ d.toNat < 192 := by
  have hv : valueU (c :: d :: r) 2 = 64 * ((c.toNat : Int) - 192) + d.toNat - 128 := by simp [valueU, leadI, valGo]
  have hc := c.toNat_lt
  have hd := d.toNat_lt
  unfold matchN
  rw [hv]
  generalize hx : 64 * ((c.toNat : Int) - 192) + d.toNat - 128 = v
  simp only [Bool.and_eq_true, beq_iff_eq, List.take_succ_cons, List.take_zero]
  constructor
  · rintro ⟨hi, h2⟩
    have h1 := (isI_iff _).1 hi
    have := congrArg List.length h2
    rw [put_len hi] at this
    have hr : 128 ≤ v ∧ v < 2048 := by
      split at this
      · simp at this
      · split at this
        · omega
        · split at this <;> simp at this
    rw [put_two hi hr.1 hr.2] at h2
    simp only [List.cons.injEq, and_true] at h2
    rw [of_eq _ _ (by omega), of_eq _ _ (by omega)] at h2
    omega
  · rintro ⟨h1, h2⟩
    have hi : isI v = true := (isI_iff _).2 (by omega)
    refine ⟨hi, ?_⟩
    rw [put_two hi (by omega) (by omega)]
    simp only [List.cons.injEq, and_true]
    rw [of_eq _ _ (by omega), of_eq _ _ (by omega)]
    omega
theorem match_three (c d e : UInt8) (r : List UInt8) : matchN (c :: d :: e :: r) 3 = true ↔
    (224 ≤ c.toNat ∧ c.toNat < 240) ∧ (lowU c.toNat ≤ d.toNat ∧ d.toNat ≤ highU c.toNat) ∧ 128 ≤ e.toNat ∧ e.toNat < 192 := by
  have hv : valueU (c :: d :: e :: r) 3 = 64 * (64 * ((c.toNat : Int) - 224) + d.toNat - 128) + e.toNat - 128 := by simp [valueU, leadI, valGo]
  have hc := c.toNat_lt
  have hd := d.toNat_lt
  have he := e.toNat_lt
  unfold matchN
  rw [hv]
  generalize hx : 64 * (64 * ((c.toNat : Int) - 224) + d.toNat - 128) + e.toNat - 128 = v
  simp only [Bool.and_eq_true, beq_iff_eq, List.take_succ_cons, List.take_zero, lowU, highU]
  constructor
  · rintro ⟨hi, h2⟩
    have h1 := (isI_iff _).1 hi
    have := congrArg List.length h2
    rw [put_len hi] at this
    have hr : 2048 ≤ v ∧ v < 65536 := by
      split at this
      · simp at this
      · split at this
        · simp at this
        · split at this
          · omega
          · simp at this
    rw [put_three hi hr.1 hr.2] at h2
    simp only [List.cons.injEq, and_true] at h2
    rw [of_eq _ _ (by omega), of_eq _ _ (by omega), of_eq _ _ (by omega)] at h2
    refine ⟨by omega, ⟨?_, ?_⟩, by omega⟩
    · split
      · omega
      · split <;> omega
    · split
      · omega
      · split <;> omega
  · rintro ⟨h1, ⟨h3, h4⟩, h2⟩
    have hr : 128 ≤ d.toNat ∧ d.toNat < 192 ∧ (c.toNat = 224 → 160 ≤ d.toNat) ∧ (c.toNat = 237 → d.toNat ≤ 159) := by
      split at h3 <;> split at h4 <;> (try split at h3) <;> (try split at h4) <;> omega
    have hi : isI v = true := (isI_iff _).2 (by omega)
    refine ⟨hi, ?_⟩
    rw [put_three hi (by omega) (by omega)]
    simp only [List.cons.injEq, and_true]
    rw [of_eq _ _ (by omega), of_eq _ _ (by omega), of_eq _ _ (by omega)]
    omega
theorem match_four (c d e f : UInt8) (r : List UInt8) : matchN (c :: d :: e :: f :: r) 4 = true ↔
    (240 ≤ c.toNat ∧ c.toNat < 245) ∧ (lowU c.toNat ≤ d.toNat ∧ d.toNat ≤ highU c.toNat) ∧ (128 ≤ e.toNat ∧ e.toNat < 192) ∧ 128 ≤ f.toNat ∧ f.toNat < 192 := by
  have hv : valueU (c :: d :: e :: f :: r) 4 = 64 * (64 * (64 * ((c.toNat : Int) - 240) + d.toNat - 128) + e.toNat - 128) + f.toNat - 128 := by simp [valueU, leadI, valGo]
  have hc := c.toNat_lt
  have hd := d.toNat_lt
  have he := e.toNat_lt
  have hf := f.toNat_lt
  unfold matchN
  rw [hv]
  generalize hx : 64 * (64 * (64 * ((c.toNat : Int) - 240) + d.toNat - 128) + e.toNat - 128) + f.toNat - 128 = v
  simp only [Bool.and_eq_true, beq_iff_eq, List.take_succ_cons, List.take_zero, lowU, highU]
  constructor
  · rintro ⟨hi, h2⟩
    have h1 := (isI_iff _).1 hi
    have := congrArg List.length h2
    rw [put_len hi] at this
    have hr : 65536 ≤ v := by
      split at this
      · simp at this
      · split at this
        · simp at this
        · split at this
          · simp at this
          · omega
    rw [put_four hi hr] at h2
    simp only [List.cons.injEq, and_true] at h2
    rw [of_eq _ _ (by omega), of_eq _ _ (by omega), of_eq _ _ (by omega), of_eq _ _ (by omega)] at h2
    refine ⟨by omega, ⟨?_, ?_⟩, by omega⟩
    · split
      · omega
      · split <;> omega
    · split
      · omega
      · split <;> omega
  · rintro ⟨h1, ⟨h3, h4⟩, h2⟩
    have hr : 128 ≤ d.toNat ∧ d.toNat < 192 ∧ (c.toNat = 240 → 144 ≤ d.toNat) ∧ (c.toNat = 244 → d.toNat ≤ 143) := by
      split at h3 <;> split at h4 <;> (try split at h3) <;> (try split at h4) <;> omega
    have hi : isI v = true := (isI_iff _).2 (by omega)
    refine ⟨hi, ?_⟩
    rw [put_four hi (by omega)]
    simp only [List.cons.injEq, and_true]
    rw [of_eq _ _ (by omega), of_eq _ _ (by omega), of_eq _ _ (by omega), of_eq _ _ (by omega)]
    omega

-- the program's bits
theorem first_bits : ∀ c : Fin 256, (c.val < 128 → runeFirst c.val 1 = c.val) ∧ (192 ≤ c.val → c.val < 224 → runeFirst c.val 2 = c.val - 192) ∧ (224 ≤ c.val → c.val < 240 → runeFirst c.val 3 = c.val - 224) ∧ (240 ≤ c.val → c.val < 248 → runeFirst c.val 4 = c.val - 240) := by
  decide +kernel
theorem and63 : ∀ c : Fin 256, 128 ≤ c.val → c.val < 192 → IntKind.i32.wrap (BitVec.ofInt IntKind.i32.bits (IntKind.i32.wrap (c.val : Int)) &&& BitVec.ofInt IntKind.i32.bits 63).toNat = (c.val : Int) - 128 := by decide +kernel
theorem wrap32 {n : Int} (h1 : 0 ≤ n) (h2 : n < 2147483648) : IntKind.i32.wrap n = n := by
  simp [IntKind.wrap, IntKind.bits, IntKind.signed]
  split <;> omega
theorem step_bits {r : Nat} (hr : r < 1048576) (c : UInt8) (h1 : 128 ≤ c.toNat) (h2 : c.toNat < 192) : runeStep r c.toNat = 64 * r + c.toNat - 128 := by
  have h3 := and63 ⟨c.toNat, c.toNat_lt⟩ h1 h2
  simp only at h3
  unfold runeStep shl6
  rw [h3]
  have e1 : (r : Int) * 2 ^ min (6 : Int).toNat IntKind.i32.bits = (r : Int) * 64 := by congr 1
  have e0 : IntKind.i32.wrap ((r : Int) * 64) = (r : Int) * 64 := wrap32 (by omega) (by omega)
  rw [e1, e0]
  obtain ⟨x, hx⟩ : ∃ x : Nat, (c.toNat : Int) - 128 = x := ⟨c.toNat - 128, by omega⟩
  have hx64 : x < 64 := by omega
  rw [hx, show (r : Int) * 64 = ((r * 64 : Nat) : Int) by simp]
  have e2 : (BitVec.ofInt IntKind.i32.bits ((r * 64 : Nat) : Int) ||| BitVec.ofInt IntKind.i32.bits (x : Int)).toNat = r * 64 + x := by
    have e3 : 2 ^ IntKind.i32.bits = 4294967296 := rfl
    simp only [BitVec.ofInt_natCast, BitVec.toNat_or, BitVec.toNat_ofNat, e3]
    rw [Nat.mod_eq_of_lt (by omega), Nat.mod_eq_of_lt (by omega)]
    have := Nat.two_pow_add_eq_or_of_lt (i := 6) (b := x) (by omega) r
    rw [show 2 ^ 6 * r = r * 64 by omega] at this
    exact this.symm
  rw [e2, wrap32 (by omega) (by omega)]
  omega

theorem fits1 (lo hi : Int) (d : UInt8) : fitsGo lo hi [d] = true ↔ lo ≤ d.toNat ∧ (d.toNat : Int) ≤ hi := by
  rw [fitsGo, fitsGo]
  split
  · constructor
    · intro h; cases h
    · intro h; omega
  · constructor
    · intro _; omega
    · intro _; rfl
theorem fitsC (lo hi : Int) (d e : UInt8) (r : List UInt8) : fitsGo lo hi (d :: e :: r) = true ↔ (lo ≤ d.toNat ∧ (d.toNat : Int) ≤ hi) ∧ fitsGo 128 191 (e :: r) = true := by
  rw [fitsGo]
  split
  · constructor
    · intro h; cases h
    · intro h; omega
  · constructor
    · intro h; exact ⟨by omega, h⟩
    · intro h; exact h.2
/-- the two decoders. -/
theorem nextU_match (b : List UInt8) : ((nextU b).2.2 = 0 → matchN b (nextU b).2.1 = true ∧ valueU b (nextU b).2.1 = (nextU b).1 ∧ ∀ n, 1 ≤ n → n < (nextU b).2.1 → matchN b n = false) ∧
    ((nextU b).2.2 ≠ 0 → ∀ n, 1 ≤ n → n ≤ 4 → n ≤ b.length → matchN b n = false) := by
  cases b with
  | nil => exact ⟨fun h => by simp [nextU] at h, fun _ n h1 _ h3 => by simp at h3; omega⟩
  | cons c r =>
    have hc := c.toNat_lt
    have ff := first_bits ⟨c.toNat, hc⟩
    simp only at ff
    -- how many bytes it would be
    have nm : ∀ n, 1 ≤ n → n ≤ 4 → n ≤ (c :: r).length → matchN (c :: r) n = true → wantedU c.toNat = n ∧ fitsU c (c :: r) n = true := by
      intro n h1 h4 hl hm
      match n, h1, h4, r, hl with
      | 1, _, _, r, _ =>
        have := (match_one c r).1 hm
        exact ⟨by simp [wantedU]; omega, by simp [fitsU, fitsGo]⟩
      | 2, _, _, d :: r, _ =>
        obtain ⟨⟨g1, g2⟩, g3, g4⟩ := (match_two c d r).1 hm
        refine ⟨by simp [wantedU]; split <;> (try split) <;> omega, ?_⟩
        have e1 : lowU c.toNat = 128 := by unfold lowU; split <;> (try split) <;> omega
        have e2 : highU c.toNat = 191 := by unfold highU; split <;> (try split) <;> omega
        show fitsGo (lowU c.toNat) (highU c.toNat) [d] = true
        rw [fits1, e1, e2]; omega
      | 3, _, _, d :: e :: r, _ =>
        obtain ⟨⟨g1, g2⟩, ⟨g3, g4⟩, g5, g6⟩ := (match_three c d e r).1 hm
        refine ⟨by simp [wantedU]; repeat' split
                   all_goals omega, ?_⟩
        show fitsGo (lowU c.toNat) (highU c.toNat) [d, e] = true
        rw [fitsC, fits1]; omega
      | 4, _, _, d :: e :: f :: r, _ =>
        obtain ⟨⟨g1, g2⟩, ⟨g3, g4⟩, ⟨g5, g6⟩, g7, g8⟩ := (match_four c d e f r).1 hm
        refine ⟨by simp [wantedU]; repeat' split
                   all_goals omega, ?_⟩
        show fitsGo (lowU c.toNat) (highU c.toNat) [d, e, f] = true
        rw [fitsC, fitsC, fits1]; omega
      | 2, _, _, [], h => simp at h
      | 3, _, _, [], h => simp at h
      | 3, _, _, [_], h => simp at h
      | 4, _, _, [], h => simp at h
      | 4, _, _, [_], h => simp at h
      | 4, _, _, [_, _], h => simp at h
      | n + 5, _, h, _, _ => omega
    have mn : ∀ n, wantedU c.toNat = n → 1 ≤ n → fitsU c (c :: r) n = true → n ≤ (c :: r).length → matchN (c :: r) n = true ∧ valueU (c :: r) n = runeGo (runeFirst c.toNat n) (r.take (n - 1)) := by
      intro n hw h1 hf hl
      have h4 := wantedU_le c.toNat
      rw [hw] at h4
      match n, h1, h4, r, hl with
      | 1, _, _, r, _ =>
        have : c.toNat < 128 := by unfold wantedU at hw; split at hw <;> (try split at hw) <;> (try split at hw) <;> (try split at hw) <;> omega
        refine ⟨(match_one c r).2 this, ?_⟩
        simp [valueU, leadI, valGo, runeGo, ff.1 this]
      | 2, _, _, d :: r, _ =>
        have hcr : 194 ≤ c.toNat ∧ c.toNat < 224 := by unfold wantedU at hw; split at hw <;> (try split at hw) <;> (try split at hw) <;> (try split at hw) <;> omega
        have e1 : lowU c.toNat = 128 := by unfold lowU; split <;> (try split) <;> omega
        have e2 : highU c.toNat = 191 := by unfold highU; split <;> (try split) <;> omega
        have hd : 128 ≤ d.toNat ∧ d.toNat < 192 := by
          have hf : fitsGo (lowU c.toNat) (highU c.toNat) [d] = true := hf
          rw [fits1, e1, e2] at hf; omega
        refine ⟨(match_two c d r).2 ⟨hcr, hd⟩, ?_⟩
        simp only [valueU, leadI, valGo, runeGo, List.take_succ_cons, List.take_zero, ff.2.1 (by omega) (by omega), if_true, Nat.add_one_sub_one]
        rw [show (c.toNat : Int) - 192 = ((c.toNat - 192 : Nat) : Int) by omega, step_bits (by omega) d hd.1 hd.2]
      | 3, _, _, d :: e :: r, _ =>
        have hcr : 224 ≤ c.toNat ∧ c.toNat < 240 := by unfold wantedU at hw; split at hw <;> (try split at hw) <;> (try split at hw) <;> (try split at hw) <;> omega
        have hd : (lowU c.toNat ≤ d.toNat ∧ d.toNat ≤ highU c.toNat) ∧ 128 ≤ e.toNat ∧ e.toNat < 192 := by
          have hf : fitsGo (lowU c.toNat) (highU c.toNat) [d, e] = true := hf
          rw [fitsC, fits1] at hf; omega
        refine ⟨(match_three c d e r).2 ⟨hcr, hd⟩, ?_⟩
        have hd2 : 128 ≤ d.toNat ∧ d.toNat < 192 := by
          have h3 := hd.1.1
          have h4 := hd.1.2
          unfold lowU at h3
          unfold highU at h4
          split at h3 <;> split at h4 <;> (try split at h3) <;> (try split at h4) <;> omega
        simp only [valueU, leadI, valGo, runeGo, List.take_succ_cons, List.take_zero, ff.2.2.1 (by omega) (by omega), if_true, Nat.add_one_sub_one]
        rw [show (c.toNat : Int) - 224 = ((c.toNat - 224 : Nat) : Int) by omega, step_bits (by omega) d hd2.1 hd2.2,
          show 64 * ((c.toNat - 224 : Nat) : Int) + d.toNat - 128 = ((64 * (c.toNat - 224) + d.toNat - 128 : Nat) : Int) by omega, step_bits (by omega) e hd.2.1 hd.2.2]
        simp
        omega
      | 4, _, _, d :: e :: f :: r, _ =>
        have hcr : 240 ≤ c.toNat ∧ c.toNat < 245 := by unfold wantedU at hw; split at hw <;> (try split at hw) <;> (try split at hw) <;> (try split at hw) <;> omega
        have hd : (lowU c.toNat ≤ d.toNat ∧ d.toNat ≤ highU c.toNat) ∧ (128 ≤ e.toNat ∧ e.toNat < 192) ∧ 128 ≤ f.toNat ∧ f.toNat < 192 := by
          have hf : fitsGo (lowU c.toNat) (highU c.toNat) [d, e, f] = true := hf
          rw [fitsC, fitsC, fits1] at hf; omega
        refine ⟨(match_four c d e f r).2 ⟨hcr, hd⟩, ?_⟩
        have hd2 : 128 ≤ d.toNat ∧ d.toNat < 192 := by
          have h3 := hd.1.1
          have h4 := hd.1.2
          unfold lowU at h3
          unfold highU at h4
          split at h3 <;> split at h4 <;> (try split at h3) <;> (try split at h4) <;> omega
        simp only [valueU, leadI, valGo, runeGo, List.take_succ_cons, List.take_zero, ff.2.2.2 (by omega) (by omega), if_true, Nat.add_one_sub_one]
        rw [show (c.toNat : Int) - 240 = ((c.toNat - 240 : Nat) : Int) by omega, step_bits (by omega) d hd2.1 hd2.2,
          show 64 * ((c.toNat - 240 : Nat) : Int) + d.toNat - 128 = ((64 * (c.toNat - 240) + d.toNat - 128 : Nat) : Int) by omega, step_bits (by omega) e hd.2.1.1 hd.2.1.2,
          show 64 * ((64 * (c.toNat - 240) + d.toNat - 128 : Nat) : Int) + e.toNat - 128 = ((64 * (64 * (c.toNat - 240) + d.toNat - 128) + e.toNat - 128 : Nat) : Int) by omega, step_bits (by omega) f hd.2.2.1 hd.2.2.2]
        simp
        omega
      | 2, _, _, [], h => simp at h
      | 3, _, _, [], h => simp at h
      | 3, _, _, [_], h => simp at h
      | 4, _, _, [], h => simp at h
      | 4, _, _, [_], h => simp at h
      | 4, _, _, [_, _], h => simp at h
      | n + 5, _, h, _, _ => omega
    rw [nextU_eq rfl]
    split
    · rename_i h0
      refine ⟨fun h => by simp at h, fun _ n h1 h4 hl => ?_⟩
      cases hm : matchN (c :: r) n with
      | false => rfl
      | true =>
        obtain ⟨g1, g2⟩ := nm n h1 h4 hl hm
        rw [g1] at h0
        rcases h0 with h0 | h0
        · omega
        · rw [g2] at h0; cases h0
    · rename_i h0
      split
      · rename_i hlt
        refine ⟨fun h => by simp at h, fun _ n h1 h4 hl => ?_⟩
        cases hm : matchN (c :: r) n with
        | false => rfl
        | true =>
          obtain ⟨g1, g2⟩ := nm n h1 h4 hl hm
          omega
      · rename_i hlt
        have hw1 : 1 ≤ wantedU c.toNat := by
          have : ¬ wantedU c.toNat = 0 := fun e => h0 (.inl e)
          omega
        have hfit : fitsU c (c :: r) (wantedU c.toNat) = true := by
          cases hf : fitsU c (c :: r) (wantedU c.toNat) with
          | true => rfl
          | false => exact absurd (.inr hf) h0
        obtain ⟨g1, g2⟩ := mn _ rfl hw1 hfit (by omega)
        generalize hq : wantedU c.toNat = q at *
        refine ⟨fun _ => ?_, fun h => absurd rfl h⟩
        dsimp only [List.drop_succ_cons, List.drop_zero]
        refine ⟨g1, g2, fun n h1 h2 => ?_⟩
        cases hm : matchN (c :: r) n with
        | false => rfl
        | true =>
          have h4 := wantedU_le c.toNat
          obtain ⟨k1, k2⟩ := nm n h1 (by omega) (by omega) hm
          omega
end Go.Proofs.Ytoblikhnbddfmaa
