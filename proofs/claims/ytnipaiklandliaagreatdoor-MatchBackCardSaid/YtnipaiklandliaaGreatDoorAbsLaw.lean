import Derived.Test.YtnipaiklandliaaGreatDoorAbsRead
namespace Go.Abs
open Go
def HasTV (P : Program) (t : TypeId) (x : AV) : Prop := ∃ as, HasT P t as ∧ x = mkv P t as
inductive HasTs (P : Program) : List TypeId → List AV → Prop where
 | nil : HasTs P [] []
 | cons {t : TypeId} {x : AV} {ts : List TypeId} {xs : List AV} (h : HasTV P t x) (hr : HasTs P ts xs) : HasTs P (t :: ts) (x :: xs)
theorem arg_ok {H : Type} {enc : TypeId × Value → H} {P : Program} {W : World} {S : List TypeId} (hS : plainTs P S = true) {t : TypeId} {v : Value} {d : DataW H} {p : List MemPlace} {base : Nat} (ht : t ∈ S)
  (h : DataW.Trod enc P W 0 (fun _ => true) true t v d p) (hok : Value.okWide P W .any base t v) : ∃ x, HasTV P t x ∧ VRel (Env.start W) x v ∧ bk x ≤ dbk d := by
 obtain ⟨fuel, hf⟩ := h
 obtain ⟨as, h1, h2, h3, h4, h5⟩ := trod_ok hS fuel t _ d p ht hf
 have hl : LRel (Env.start W) as v.cells := by simpa using h2
 refine ⟨mkv P t as, ⟨as, h1, rfl⟩, ?_⟩
 have hpt := List.all_eq_true.1 hS t ht
 unfold Value.okWide at hok
 by_cases hag : isAggT P t = some true
 ·have : ∃ cs, v = .agg cs := by
   unfold isAggT at hag
   split at hag
   ·rename_i hu; rw [hu] at hok; obtain ⟨cs, hv, _⟩ := hok; exact ⟨cs, hv⟩
   ·rename_i hu; rw [hu] at hpt; cases hpt
   ·cases hag
   ·cases hag
  obtain ⟨cs, rfl⟩ := this
  simp only [mkv, hag, if_true]
  exact ⟨.agg _ _ hl.1 hl.get, h5⟩
 ·have hcell : ∀ cs, v ≠ .agg cs := by
   intro cs hv
   subst hv
   split at hpt
   ·rename_i hu; rw [hu] at hok; simp [Cell.okWide, hu, Cell.ok] at hok
   ·rename_i hu; rw [hu] at hok; simp [Cell.okWide, hu, Cell.ok] at hok
   ·rename_i hu; rw [hu] at hok; simp [Cell.okWide, hu, Cell.ok] at hok
   ·rename_i hu; rw [hu] at hok; simp [Cell.okWide, hu, Cell.ok] at hok
   ·rename_i hu; exact hag (by unfold isAggT; rw [hu])
   ·cases hpt
  have hvc : v.cells = #[v] := by
   cases v <;> first | rfl | exact absurd rfl (hcell _)
  rw [hvc] at hl
  have hlen : as.length = 1 := hl.1
  match as, hlen with
  | [x], _ =>
   simp only [mkv, hag, if_false, List.headD_cons]
   refine ⟨by simpa using hl.2 0, ?_⟩
   simp only [bkL] at h5; omega
theorem args_ok {H : Type} {enc : TypeId × Value → H} {P : Program} {W : World} {S : List TypeId} (hS : plainTs P S = true) {base : Nat} : ∀ (ts : List TypeId) (vs : List Value) (ds : List (DataW H)) (p : List MemPlace), (∀ t ∈ ts, t ∈ S) →
  DataW.TrodAll enc P W 0 (fun _ => true) true ts vs ds p → (∀ (j : Nat) t v, ts[j]? = some t → vs[j]? = some v → Value.okWide P W .any base t v) →
  ∃ xs, LRel (Env.start W) xs vs.toArray ∧ HasTs P ts xs ∧ bkL xs ≤ dbkL ds
 | [], [], [], _, _, _, _ => ⟨[], .nil _, .nil, Nat.le_refl _⟩
 | [], [], _ :: _, _, _, h, _ => h.elim
 | [], _ :: _, _, _, _, h, _ => h.elim
 | _ :: _, [], _, _, _, h, _ => h.elim
 | _ :: _, _ :: _, [], _, _, h, _ => h.elim
 | t :: ts, v :: vs, d :: ds, p, hts, h, hok => by
  obtain ⟨p1, q1, h1, h2, _⟩ := h
  obtain ⟨x, hx1, hx2, hx3⟩ := arg_ok hS (hts t (by simp)) h1 (hok 0 t v rfl rfl)
  obtain ⟨xs, h3, h4, h5⟩ := args_ok hS (base := base) ts vs ds q1 (fun u hu => hts u (by simp [hu])) h2 (fun j t v h h' => hok (j + 1) t v (by simpa using h) (by simpa using h'))
  exact ⟨x :: xs, .cons hx2 h3, .cons hx1 h4, by simp only [bkL, dbkL]; omega⟩
theorem args_back {H : Type} {enc : TypeId × Value → H} {P : Program} {W W' : World} (hl : laidOutB P = true) (hb : RowKit.Below W.heap.size W W') : ∀ (ts : List TypeId) (vs : List Value) (ds : List (DataW H)) (p : List MemPlace),
  (ts.all fun t => P.readableRec t && decide (t < P.types.size)) = true → DataW.TrodAll enc P W 0 (fun _ => true) true ts vs ds p → DataW.TrodAll enc P W' 0 (fun b => decide (b < W.heap.size)) true ts vs ds p
 | [], [], [], _, _, h => h
 | [], [], _ :: _, _, _, h => h.elim
 | [], _ :: _, _, _, _, h => h.elim
 | _ :: _, [], _, _, _, h => h.elim
 | _ :: _, _ :: _, [], _, _, h => h.elim
 | t :: ts, v :: vs, d :: ds, p, hts, h => by
  obtain ⟨p1, q1, h1, h2, hp⟩ := h
  simp only [List.all_cons, Bool.and_eq_true, decide_eq_true_eq] at hts
  refine ⟨p1, q1, RowKit.Below.trod hl hts.1.1 hts.1.2 h1 hb ?_, args_back hl hb ts vs ds q1 hts.2 h2, hp⟩
  obtain ⟨m, hm⟩ := h1
  exact DataW.trod_lt m _ _ _ hm
theorem trod_len {H : Type} {enc : TypeId × Value → H} {P : Program} {W : World} {base : Nat} {sp : Nat → Bool} {held : Bool} : ∀ {ts : List TypeId} {vs : List Value} {ds : List (DataW H)} {p : List MemPlace}, DataW.TrodAll enc P W base sp held ts vs ds p → ds.length = ts.length
 | [], [], [], _, _ => rfl
 | [], [], _ :: _, _, h => h.elim
 | [], _ :: _, _, _, h => h.elim
 | _ :: _, [], _, _, h => h.elim
 | _ :: _, _ :: _, [], _, h => h.elim
 | _ :: _, _ :: _, _ :: _, _, h => by obtain ⟨_, _, _, h2, _⟩ := h; simp [trod_len h2]
def Env.startG (W : World) (g : Nat) (x : AV) : Env := { ρ := fun _ => (g, 0), H := [Blk.cells (gver g) [x]], w := W, ip := 1, lo := 0 }
theorem startG_keep (W : World) (g : Nat) (x : AV) : KeepAll (Env.start W) (Env.startG W g x) where
 imm cb hi := ⟨⟨hi.1, fun ⟨b, h1, h2, _⟩ => by
  have := alive_lt h2
  simp only [Env.startG, List.length_singleton] at this h1
  omega⟩, rfl⟩
 len := Nat.zero_le _
 cell b _ _ hb _ := by simp [Env.start] at hb
 map b _ hb _ := by simp [Env.start] at hb
 shape _ cc _ z h := ⟨cc, z, h, rfl⟩
theorem startG_ok {W : World} {g : Nat} {x : AV} {v : Value} (hc : W.cell? ⟨g, 0, none⟩ = some v) (hl : x.leaf = true) (hv : ∀ E, VRel E x v) : HRel (Env.startG W g x) := by
 obtain ⟨cc, e, z, hw, hs, h0⟩ : ∃ cc e z, W.heap[g]? = some (.cells cc e z) ∧ 0 < cc.size ∧ cc.getD 0 undef = v := by
  unfold World.cell? at hc
  cases hh : W.heap[g]? with
  | none => simp [hh] at hc
  | some o =>
   cases o with
   | cells cc e z =>
    simp [hh] at hc
    obtain ⟨h1, h2⟩ := Array.getElem?_eq_some_iff.1 hc
    exact ⟨cc, e, z, rfl, h1, by simp [Array.getD, h1, h2]⟩
   | _ => simp [hh] at hc
 refine .mk' (fun b blk hb ha => ?_) (fun b b' ha ha' _ => ?_) (fun _ _ => Nat.zero_le _) (Nat.zero_le _)
 ·have hlt := alive_lt ha
  simp only [Env.startG, List.length_singleton] at hlt
  obtain rfl : b = 0 := by omega
  simp only [Env.startG, List.getElem?_cons_zero, Option.some.injEq] at hb
  subst hb
  refine ⟨_, hw, .cells _ _ _ _ _ (by simp only [List.length_singleton]; exact hs) (fun h => absurd (show gver g % 4 = 3 by unfold gver; omega) h) (fun j hj => ?_) ⟨fun h => ?_, fun h => ?_, fun _ => ?_⟩⟩
  ·match j, hj with
   | 0, _ => exact ⟨hl, by rw [show ((Env.startG W g x).ρ 0).2 + 0 = 0 from rfl, h0]; exact hv _⟩
  ·unfold gver at h; omega
  ·unfold gver at h; omega
  ·exact ⟨by show g = _; unfold gver; omega, rfl⟩
 ·have h1 := alive_lt ha
  have h2 := alive_lt ha'
  simp only [Env.startG, List.length_singleton] at h1 h2
  omega
theorem law_callsG {C : Cfg} (hF : Fits C) {f : FuncId} {W : World} {xs : List AV} {args : Array Value} {g : Nat} {x : AV} {v : Value} (hc : W.cell? ⟨g, 0, none⟩ = some v) (hl : x.leaf = true) (hv : ∀ E, VRel E x v)
  (hx : LRel (Env.start W) xs args) (hbd : ∃ fn c, C.P.funcs[f]? = some fn ∧ fn.body = some c) (h : ∃ k H', aCall C k 1 f xs [Blk.cells (gver g) [x]] = some (.bool true, H')) :
  Calls C.P f args W fun e W' => e = .returned (.bool true) ∧ RowKit.Below W.heap.size W W' := by
 obtain ⟨k, H', h⟩ := h
 obtain ⟨fn0, c0, hfn0, hb0⟩ := hbd
 rcases aCall_ok hF k _ _ _ _ _ _ h with ⟨_, _, _, _, hcl⟩ | ⟨fn1, hfn1, hb1, _⟩
 case inr => rw [hfn0] at hfn1; cases hfn1; rw [hb0] at hb1; cases hb1
 refine (hcl (Env.startG W g x) args rfl (startG_ok hc hl hv) (Nat.le_refl _) (hx.mono (startG_keep W g x))).mono ?_
 rintro e w' ⟨v', E', rfl, rfl, _, _, hst, hv⟩
 cases hv
 exact ⟨rfl, hst.os, hst.tape, hst.output, hst.size, fun k hk => (hst.imm k ((startG_keep W g x).imm k (start_imm hk)).1).2⟩
theorem HasTs.inv {P : Program} {t : TypeId} {ts : List TypeId} {xs : List AV} (h : HasTs P (t :: ts) xs) : ∃ x xr, xs = x :: xr ∧ HasTV P t x ∧ HasTs P ts xr := by
 cases h with
 | cons h hr => exact ⟨_, _, rfl, h, hr⟩
theorem HasTs.done {P : Program} {xs : List AV} (h : HasTs P [] xs) : xs = [] := by cases h; rfl
theorem HasTV.int {P : Program} {t : TypeId} {x : AV} {k : IntKind} (hu : P.underlying t = some (.int k)) (h : HasTV P t x) : ∃ n, x = .int k n ∧ (Lit.int k n).wf = true := by
 obtain ⟨al, h, rfl⟩ := h
 cases h with
 | int k' n hu' hw => rw [hu] at hu'; cases hu'; exact ⟨n, by simp [mkv, isAggT, hu], hw⟩
 | bool b hu' => rw [hu] at hu'; cases hu'
 | str s hu' hs => rw [hu] at hu'; cases hu'
 | nilS hu' => rw [hu] at hu'; cases hu'
 | vs es hu' hl h => rw [hu] at hu'; cases hu'
 | struct fs parts hu' hl h => rw [hu] at hu'; cases hu'
theorem HasTV.bool {P : Program} {t : TypeId} {x : AV} (hu : P.underlying t = some .bool) (h : HasTV P t x) : ∃ b, x = .bool b := by
 obtain ⟨al, h, rfl⟩ := h
 cases h with
 | bool b hu' => exact ⟨b, by simp [mkv, isAggT, hu]⟩
 | int k' n hu' hw => rw [hu] at hu'; cases hu'
 | str s hu' hs => rw [hu] at hu'; cases hu'
 | nilS hu' => rw [hu] at hu'; cases hu'
 | vs es hu' hl h => rw [hu] at hu'; cases hu'
 | struct fs parts hu' hl h => rw [hu] at hu'; cases hu'
theorem HasTV.str {P : Program} {t : TypeId} {x : AV} (hu : P.underlying t = some .string) (h : HasTV P t x) : ∃ s, x = .str s ∧ s.length ≤ maxLen := by
 obtain ⟨al, h, rfl⟩ := h
 cases h with
 | str s hu' hs => exact ⟨s, by simp [mkv, isAggT, hu], hs⟩
 | bool b hu' => rw [hu] at hu'; cases hu'
 | int k' n hu' hw => rw [hu] at hu'; cases hu'
 | nilS hu' => rw [hu] at hu'; cases hu'
 | vs es hu' hl h => rw [hu] at hu'; cases hu'
 | struct fs parts hu' hl h => rw [hu] at hu'; cases hu'
theorem HasTV.slice {P : Program} {t e : TypeId} {x : AV} (hu : P.underlying t = some (.slice e)) (h : HasTV P t x) : x = .nilS ∨ ∃ es, x = .vs es false ∧ es.length ≤ maxLen ∧ ∀ y ∈ es, HasTV P e y := by
 obtain ⟨al, h, rfl⟩ := h
 cases h with
 | str s hu' hs => rw [hu] at hu'; cases hu'
 | bool b hu' => rw [hu] at hu'; cases hu'
 | int k' n hu' hw => rw [hu] at hu'; cases hu'
 | nilS hu' => exact .inl (by simp [mkv, isAggT, hu])
 | vs es hu' hl h =>
  rw [hu] at hu'; cases hu'
  refine .inr ⟨es.map (mkv P e), by simp [mkv, isAggT, hu], by simpa using hl, fun y hy => ?_⟩
  obtain ⟨al, hal, rfl⟩ := List.mem_map.1 hy
  obtain ⟨i, hi, rfl⟩ := List.getElem_of_mem hal
  exact ⟨_, h i hi, rfl⟩
 | struct fs parts hu' hl h => rw [hu] at hu'; cases hu'
end Go.Abs

