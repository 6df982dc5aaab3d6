import Derived.Orders
namespace Go.Abs
open Go
structure BS where
 b : Nat
 ver : Nat
 off : Nat
 len : Nat
 cap : Nat
 sz : Nat
 ag : Bool
 ex : Bool
 deriving DecidableEq, Inhabited
inductive AV where
 | bool (b : Bool)
 | int (k : IntKind) (n : Int)
 | str (s : List UInt8)
 | nil
 | ptr (b ver off : Nat)
 | vptr (cs : List AV) (off : Nat)
 | nilS
 | vs (es : List AV) (full : Bool)
 | bs (s : BS)
 | nilM
 | map (r : Nat)
 | nilF
 | func (f : Nat) (first caps : List AV)
 | nilI
 | iface (t : Nat) (v : AV)
 | agg (cs : List AV)
 | tup (xs : List AV)
 | adr (a : Addr)
 | it (r : Nat)
 deriving Inhabited
inductive Blk where
 | cells (ver : Nat) (cs : List AV)
 | map (es : List (AV × AV))
 | dead
 deriving Inhabited
abbrev Heap := List Blk
def AV.cells : AV → List AV
 | .agg cs => cs
 | v => [v]
def AV.leaf : AV → Bool
 | .agg _ | .tup _ => false
 | _ => true
def AV.scal : AV → Bool
 | .bool _ | .int .. | .str _ => true
 | _ => false
def toV0 : AV → Option Value
 | .bool b => some (.bool b)
 | .int k n => some (.int k n)
 | .str s => some (.string ⟨s.toArray⟩)
 | .nil => some (.pointer none)
 | .nilS => some (.slice none 0 0)
 | .nilM => some (.map none)
 | .nilF => some .nilFunc
 | .nilI => some .nilIface
 | .adr a => some (.pointer (some a))
 | _ => none
def toV1 : AV → Option Value
 | .iface t v => (toV0 v).map (.iface t)
 | v => toV0 v
def toVs : List AV → Option (List Value)
 | [] => some []
 | v :: r => (toV1 v).bind fun x => (toVs r).map (x :: ·)
def toV : AV → Option Value
 | .agg cs => (toVs cs).map fun l => .agg l.toArray
 | v => toV1 v
def ofV0 : Value → Option AV
 | .bool b => some (.bool b)
 | .int k n => some (.int k n)
 | .string s => some (.str s.data.toList)
 | .pointer none => some .nil
 | .slice none 0 0 => some .nilS
 | .map none => some .nilM
 | .nilFunc => some .nilF
 | .nilIface => some .nilI
 | _ => none
def ofV1 : Value → Option AV
 | .iface t v => (ofV0 v).map (.iface t)
 | v => ofV0 v
def ofVs : List Value → Option (List AV)
 | [] => some []
 | v :: r => (ofV1 v).bind fun x => (ofVs r).map (x :: ·)
def ofV : Value → Option AV
 | .agg cs => (ofVs cs.toList).map .agg
 | .tuple cs => (ofVs cs.toList).map .tup
 | v => ofV1 v
def pureOf {α : Type} (P : Program) : Sem α → Option α
 | .pure a => some a
 | .program k => pureOf P (k P)
 | _ => none
mutual
def AV.beq : AV → AV → Bool
 | .bool a, .bool b => a == b
 | .int k n, .int l m => decide (k = l) && decide (n = m)
 | .str s, .str t => decide (s = t)
 | .nil, .nil | .nilS, .nilS | .nilM, .nilM | .nilF, .nilF | .nilI, .nilI => true
 | .ptr a b c, .ptr x y z => decide (a = x) && decide (b = y) && decide (c = z)
 | .vptr a i, .vptr b j => decide (i = j) && AV.beqL a b
 | .vs a f, .vs b g => (f == g) && AV.beqL a b
 | .bs s, .bs t => decide (s = t)
 | .map a, .map b => decide (a = b)
 | .func f a b, .func g c d => decide (f = g) && AV.beqL a c && AV.beqL b d
 | .iface t v, .iface u w => decide (t = u) && AV.beq v w
 | .agg a, .agg b => AV.beqL a b
 | .tup a, .tup b => AV.beqL a b
 | .adr a, .adr b => decide (a = b)
 | .it a, .it b => decide (a = b)
 | _, _ => false
def AV.beqL : List AV → List AV → Bool
 | [], [] => true
 | a :: r, b :: s => AV.beq a b && AV.beqL r s
 | _, _ => false
end
mutual
def AV.pl : AV → Bool
 | .ptr .. | .bs _ | .map _ | .it _ => false
 | .vptr a _ => AV.plL a
 | .vs a _ => AV.plL a
 | .func _ a b => AV.plL a && AV.plL b
 | .iface _ v => AV.pl v
 | .agg a => AV.plL a
 | .tup a => AV.plL a
 | _ => true
def AV.plL : List AV → Bool
 | [] => true
 | a :: r => AV.pl a && AV.plL r
end
mutual
def AV.blw (n : Nat) : AV → Bool
 | .ptr b _ _ => decide (b < n)
 | .bs s => decide (s.b < n)
 | .map r => decide (r < n)
 | .it r => decide (r < n)
 | .vptr a _ => AV.blwL n a
 | .vs a _ => AV.blwL n a
 | .func _ a b => AV.blwL n a && AV.blwL n b
 | .iface _ v => AV.blw n v
 | .agg a => AV.blwL n a
 | .tup a => AV.blwL n a
 | _ => true
def AV.blwL (n : Nat) : List AV → Bool
 | [] => true
 | a :: r => AV.blw n a && AV.blwL n r
end
def beqE : List (AV × AV) → List (AV × AV) → Bool
 | [], [] => true
 | (a, b) :: r, (c, d) :: s => AV.beq a c && AV.beq b d && beqE r s
 | _, _ => false
def blkOk (n : Nat) : Option Blk → Option Blk → Bool
 | _, some (.cells _ cs) => AV.blwL n cs
 | _, some (.map es) => es.all fun e => AV.blw n e.1 && AV.blw n e.2
 | _, _ => true
def blkSame : Option Blk → Option Blk → Bool
 | some (.cells v cs), some (.cells w ds) => decide (v = w) && AV.beqL cs ds
 | some (.map es), some (.map fs) => beqE es fs
 | _, _ => false
def trimOk (H H' : Heap) : Bool := decide (H.length ≤ H'.length) && (List.range H.length).all fun b => blkSame H[b]? H'[b]? || blkOk H.length H[b]? H'[b]?
def hget (H : Heap) (b ver : Nat) : Option (List AV) :=
 match H[b]? with
 | some (.cells v cs) => if v = ver then some cs else none
 | _ => none
def hmap (H : Heap) (r : Nat) : Option (List (AV × AV)) :=
 match H[r]? with
 | some (.map es) => some es
 | _ => none
def itB (s : List UInt8) (k : Nat) : List (AV × AV) := [(.tup [], .tup [.str s, .int .i64 k])]
def mfitK : AV → Bool
 | .tup _ => false
 | _ => true
def mfit (es : List (AV × AV)) : Bool := es.all fun e => mfitK e.1
def hit (H : Heap) (r : Nat) : Option (List UInt8 × Nat) :=
 match hmap H r with
 | some [(.tup [], .tup [.str s, .int .i64 k])] => if 0 ≤ k then some (s, k.toNat) else none
 | _ => none
def aRange (P : Program) (H : Heap) (t : TypeId) (x : AV) : Option (AV × Option Heap) :=
 match P.underlying t, x with
 | some .string, .str s => some (.it H.length, some (H ++ [Blk.map (itB s 0)]))
 | _, _ => none
def aNext (prot : Nat) (H : Heap) (x : AV) : Option (AV × Option Heap) :=
 match x with
 | .it r => if prot ≤ r then (hit H r).map fun (s, k) =>
   if k < s.length then (.tup [.bool true, .int .i64 k, .int .i32 (Utf8.decode ⟨s.toArray⟩ k).1], some (H.set r (Blk.map (itB s (k + (Utf8.decode ⟨s.toArray⟩ k).2)))))
   else (.tup [.bool false], some H)
  else none
 | _ => none
def win (cs : List AV) (off n : Nat) : Option (List AV) :=
 if off + n ≤ cs.length then some ((cs.drop off).take n) else none
def splice (cs : List AV) (off : Nat) (xs : List AV) : List AV := cs.take off ++ xs ++ cs.drop (off + xs.length)
def chunk (sz : Nat) (ag : Bool) : Nat → List AV → List AV
 | 0, _ => []
 | n + 1, cs => (if ag then .agg (cs.take sz) else cs.headD .nil) :: chunk sz ag n (cs.drop sz)
def isAggT (P : Program) (t : TypeId) : Option Bool :=
 match P.underlying t with
 | some (.struct _) | some (.array _ _) => some true
 | some _ => some false
 | none => none
def sizeT (P : Program) (t : TypeId) : Option Nat := (P.info? t).map (·.size)
def bytesT (P : Program) (t : TypeId) : Option Nat := (P.info? t).map (·.bytes)
def litOk (z : AV) (ag : Bool) (sz : Nat) : Bool :=
 z.cells.all AV.scal && (ag || (sz == 1 && match z with | .int .i64 _ => false | _ => true))
theorem litOk_spec {z : AV} {ag : Bool} {sz : Nat} (h : litOk z ag sz = true) : (z.cells.all AV.scal = true) ∧ (ag || sz == 1) = true := by
 simp only [litOk, Bool.and_eq_true, Bool.or_eq_true] at h ⊢
 exact ⟨h.1, h.2.imp id fun h => h.1⟩
def zeroT (P : Program) (t : TypeId) : Option AV := ((P.info? t).bind (·.zero)).bind ofV
def sliceElem (P : Program) (t : TypeId) : Option TypeId :=
 match P.underlying t with
 | some (.slice e) => some e
 | _ => none
def gver (g : Nat) : Nat := 4 * g + 3
def rd (P : Program) (t : TypeId) (cs : List AV) (off : Nat) : Option AV :=
 (isAggT P t).bind fun ag => if ag then (sizeT P t).bind fun n => (win cs off n).map .agg else cs[off]?
def gload (P : Program) (t : TypeId) (H : Heap) (g : Nat) : Option AV := (hget H 0 (gver g)).bind fun cs => rd P t cs 0
def aLoad (P : Program) (t : TypeId) (H : Heap) : AV → Option AV
 | .ptr b ver off => (hget H b ver).bind fun cs => rd P t cs off
 | .vptr cs off => rd P t cs off
 | _ => none
def hput (prot : Nat) (H : Heap) (b ver off : Nat) (xs : List AV) : Option Heap :=
 (hget H b ver).bind fun cs =>
  if prot ≤ b ∧ off + xs.length ≤ cs.length ∧ xs.all AV.leaf = true ∧ ver % 4 ≠ 3 then some (H.set b (Blk.cells ver (splice cs off xs))) else none
def aStore (P : Program) (t : TypeId) (prot : Nat) (H : Heap) (a v : AV) : Option Heap :=
 match a with
 | .ptr b ver off => (sizeT P t).bind fun n => if v.cells.length = n then hput prot H b ver off v.cells else none
 | _ => none
def aNew (v : Nat) (H : Heap) (cs : List AV) : AV × Option Heap := (.ptr H.length v 0, some (H ++ [Blk.cells v cs]))
def isBld (P : Program) (t : TypeId) : Bool :=
 match P.info? t with
 | some i => match i.desc with | .named n _ => n == "strings.Builder" | _ => false
 | none => false
def rowV (e : TypeId) : Nat := if e = 5 then 2 else 0
def rowOk (v off : Nat) (e : TypeId) : Bool := v % 2 == 0 && (v % 4 != 2 || (e == 5 && off == 0))
theorem rowOk_spec {v off : Nat} {e : TypeId} (h : rowOk v off e = true) : v % 2 = 0 ∧ (v % 4 = 2 → e = 5 ∧ off = 0) := by
 simp only [rowOk, Bool.and_eq_true, Bool.or_eq_true, beq_iff_eq, bne_iff_ne, ne_eq] at h
 exact ⟨h.1, fun h4 => h.2.resolve_left (fun h5 => h5 h4)⟩
theorem rowOk_zero {v off : Nat} {e : TypeId} (h : v % 4 = 0) : rowOk v off e = true := by
 have h1 : v % 2 = 0 := by omega
 have h2 : ¬ v % 4 = 2 := by omega
 simp [rowOk, h1, h2]
def tagT (P : Program) (t : TypeId) : Nat := if isBld P t then 4 * t + 1 else 0
def fieldT (P : Program) (s : TypeId) (f : Nat) : Option Field :=
 match P.underlying s with
 | some (.struct fs) => fs[f]?
 | _ => none
def aFieldAddr (P : Program) (s : TypeId) (f : Nat) (a : AV) : Option AV :=
 (fieldT P s f).bind fun fd => (sizeT P fd.type).bind fun n => if n = 0 then none else
  match a with
  | .ptr b ver off => some (.ptr b ver (off + fd.offset))
  | .vptr cs off => some (.vptr cs (off + fd.offset))
  | _ => none
def aField (P : Program) (s : TypeId) (f : Nat) : AV → Option AV
 | .agg cs => (fieldT P s f).bind fun fd => rd P fd.type cs fd.offset
 | _ => none
def asNat : AV → Option Nat
 | .int _ n => if 0 ≤ n then some n.toNat else none
 | _ => none
def aIndexAddr (P : Program) (t : TypeId) (x : AV) (ix : AV) : Option AV :=
 (asNat ix).bind fun i =>
  match P.underlying t with
  | some (.slice e) => (sizeT P e).bind fun sz => match x with
   | .vs es _ => (es[i]?).bind fun v => if v.cells.length = sz then some (.vptr v.cells 0) else none
   | .bs s => if i < s.len ∧ s.sz = sz then some (.ptr s.b s.ver (s.off + i * sz)) else none
   | _ => none
  | some (.array n e) => (sizeT P e).bind fun sz => if i < n then
    match x with
    | .ptr b ver off => some (.ptr b ver (off + i * sz))
    | .vptr cs off => some (.vptr cs (off + i * sz))
    | _ => none
   else none
  | _ => none
def aIndex (P : Program) (t : TypeId) (x : AV) (ix : AV) : Option AV :=
 (asNat ix).bind fun i =>
  match P.underlying t, x with
  | some .string, .str s => (s[i]?).map fun c => .int .u8 c.toNat
  | some (.array n e), .agg cs => (sizeT P e).bind fun sz => if i < n then rd P e cs (i * sz) else none
  | _, _ => none
def elemCells (H : Heap) (sz : Nat) : AV → Option (Nat × List AV)
 | .nilS => some (0, [])
 | .vs es _ => if es.all (fun v => v.cells.length == sz) then some (es.length, es.flatMap AV.cells) else none
 | .bs s => if s.sz = sz then (hget H s.b s.ver).bind fun cs => (win cs s.off (s.len * sz)).map fun c => (s.len, c) else none
 | .str s => if sz = 1 then some (s.length, s.map fun c => .int .u8 c.toNat) else none
 | _ => none
def roomy (n bytes : Nat) : Bool := decide (0 < bytes ∧ n * bytes ≤ 140737488355328)
def aAppend (P : Program) (prot : Nat) (H : Heap) (ts : Array TypeId) (s x : AV) : Option (AV × Option Heap) :=
 (ts[0]?).bind fun t => (ts[1]?).bind fun xt => (sliceElem P t).bind fun e =>
 (sizeT P e).bind fun sz => (bytesT P e).bind fun by_ => (isAggT P e).bind fun ag =>
 (match P.underlying xt with | some (.int _) => none | none => none | some _ => some ()).bind fun _ =>
 (zeroT P e).bind fun z => if z.cells.length ≠ sz then none else
 (elemCells H sz x).bind fun (m, xs) =>
 if xs.all AV.leaf = true then
 match s with
 | .nilS => if m = 0 then some (s, none) else if roomy m by_ then
   some (.bs ⟨H.length, rowV e, 0, m, 0, sz, ag, false⟩, some (H ++ [Blk.cells (rowV e) xs])) else none
 | .vs es full => if m = 0 then some (s, none) else if full && roomy (es.length + m) by_ && es.all (fun v => v.cells.length == sz) && (es.flatMap AV.cells).all AV.leaf then
   some (.bs ⟨H.length, 0, 0, es.length + m, 0, sz, ag, false⟩, some (H ++ [Blk.cells 0 (es.flatMap AV.cells ++ xs)])) else none
 | .bs h => if m = 0 then some (s, none) else
   if h.sz ≠ sz then none else
   (hget H h.b h.ver).bind fun cs => (win cs h.off (h.len * sz)).bind fun old =>
   if roomy (h.len + m) by_ then
    (if h.ex then
     if h.len + m ≤ h.cap then (hput prot H h.b h.ver (h.off + h.len * sz) xs).map fun H' => (.bs { h with len := h.len + m }, some H')
     else some (.bs ⟨H.length, 0, 0, h.len + m, 0, sz, ag, false⟩, some (H ++ [Blk.cells 0 (old ++ xs)]))
    else if prot ≤ h.b ∧ rowOk h.ver h.off e = true then
     some (.bs ⟨h.b, h.ver + 4, 0, h.len + m, 0, sz, ag, false⟩, some (H.set h.b (Blk.cells (h.ver + 4) (old ++ xs))))
    else none)
   else none
 | _ => none
 else none
def aCopy (P : Program) (prot : Nat) (H : Heap) (ts : Array TypeId) (d x : AV) : Option (AV × Option Heap) :=
 (ts[0]?).bind fun t => (sliceElem P t).bind fun e => (sizeT P e).bind fun sz =>
 (elemCells H sz x).bind fun (m, xs) =>
 match d with
 | .nilS => some (.int .i64 0, none)
 | .bs h => if h.sz ≠ sz then none else
   let n := Nat.min m h.len
   if n = 0 then some (.int .i64 0, none) else
   (hput prot H h.b h.ver h.off (xs.take (n * sz))).map fun H' => (.int .i64 n, some H')
 | _ => none
def optInt : Option AV → Option (Option Nat)
 | none => some none
 | some (.int _ n) => if 0 ≤ n then some (some n.toNat) else none
 | _ => none
def aBounds (len room : Nat) (lo hi mx : Option AV) : Option (Nat × Nat × Option Nat) :=
 (optInt lo).bind fun l => (optInt hi).bind fun h => (optInt mx).bind fun m =>
  let l' := l.getD 0
  let h' := h.getD len
  if l' ≤ h' ∧ h' ≤ m.getD room ∧ m.getD room ≤ room ∧ (m.isSome = true → h.isSome = true) then some (l', h', m) else none
def fullOf (full : Bool) (h n : Nat) : Option Nat → Bool
 | none => full && h == n
 | some m => m == h
def aSlice (P : Program) (t : TypeId) (x : AV) (lo hi mx : Option AV) : Option AV :=
 match P.underlying t, x with
 | some .string, .str s => (aBounds s.length s.length lo hi mx).bind fun (l, h, m) => if m.isSome then none else some (.str ((s.drop l).take (h - l)))
 | some (.slice e), .nilS => (sizeT P e).bind fun _ => (aBounds 0 0 lo hi mx).map fun _ => .nilS
 | some (.slice e), .vs es full => (sizeT P e).bind fun sz => if es.all (fun v => v.cells.length == sz) then
   (aBounds es.length es.length lo hi mx).map fun (l, h, m) =>
    .vs ((es.drop l).take (h - l)) (fullOf full h es.length m) else none
 | some (.slice e), .bs s => (sizeT P e).bind fun sz => if s.sz ≠ sz then none else
   let room := if s.ex then s.cap else s.len
   (aBounds s.len room lo hi mx).bind fun (l, h, m) =>
    match m with
    | some m => if m = l then some (.vs [] true) else some (.bs { s with off := s.off + l * sz, len := h - l, cap := m - l, ex := true })
    | none =>
     if s.ex then (if s.cap = l then some (.vs [] true) else some (.bs { s with off := s.off + l * sz, len := h - l, cap := s.cap - l }))
     else if l = 0 then some (.bs { s with len := h })
     else if h = l then some (.vs [] false)
     else some (.bs { s with off := s.off + l * sz, len := h - l })
 | _, _ => none
def zrep (n : Nat) (zs : List AV) : List AV := (List.range (n * zs.length)).map fun i => zs.getD (i % zs.length) .nil
def aMakeSlice (P : Program) (H : Heap) (t : TypeId) (len cap : AV) : Option (AV × Option Heap) :=
 (sliceElem P t).bind fun e => (sizeT P e).bind fun sz => (bytesT P e).bind fun by_ => (isAggT P e).bind fun ag =>
 (zeroT P e).bind fun z =>
 match len, cap with
 | .int _ l, .int _ c =>
  if 0 ≤ l ∧ l ≤ c ∧ c ≤ 9223372036854775807 ∧ roomy c.toNat by_ = true ∧ z.cells.length = sz ∧ 0 < sz ∧ (zrep c.toNat z.cells).all AV.leaf = true then
   some (.bs ⟨H.length, 0, 0, l.toNat, c.toNat, sz, ag, true⟩, some (H ++ [Blk.cells 0 (zrep c.toNat z.cells)]))
  else none
 | _, _ => none
def fillA (place : Nat → Option (Nat × Nat)) (cs : List AV) : List (Nat × AV) → Option (List AV)
 | [] => some cs
 | (i, v) :: rest => (place i).bind fun (off, size) =>
   if v.cells.length = size ∧ off + size ≤ cs.length then fillA place (splice cs off v.cells) rest else none
def aBuild (P : Program) (t : TypeId) (parts : List (Nat × AV)) : Option AV :=
 (zeroT P t).bind fun z =>
  match P.underlying t with
  | some (.struct fs) => (fs.toList.mapM fun f => (P.info? f.type).map fun i => (f.offset, i.size)).bind fun places => (fillA (places[·]?) z.cells parts).map .agg
  | some (.array _ e) => (sizeT P e).bind fun n => (fillA (fun i => some (i * n, n)) z.cells parts).map .agg
  | _ => none
def aBuildSlice (P : Program) (H : Heap) (t : TypeId) (len : Nat) (parts : List (Nat × AV)) : Option (AV × Option Heap) :=
 (sliceElem P t).bind fun e => (sizeT P e).bind fun sz => (isAggT P e).bind fun ag => (zeroT P e).bind fun z =>
  if len * sz ≤ 16777216 ∧ z.cells.length = sz ∧ 0 < sz then
   (fillA (fun i => some (i * sz, sz)) (zrep len z.cells) parts).bind fun cs =>
    if cs.all AV.leaf = true then
     if litOk z ag sz then (if AV.plL cs then some (.vs (chunk sz ag len cs) true, none) else none)
     else some (.bs ⟨H.length, 0, 0, len, len, sz, ag, true⟩, some (H ++ [Blk.cells 0 cs]))
    else none
  else none
def aNilNe (P : Program) (t : TypeId) (x y : AV) : Bool :=
 match P.underlying t, x, y with
 | some (.pointer _), .nil, .ptr .. | some (.pointer _), .ptr .., .nil | some (.pointer _), .nil, .vptr .. | some (.pointer _), .vptr .., .nil => true
 | some (.slice _), .nilS, .vs .. | some (.slice _), .vs .., .nilS | some (.slice _), .nilS, .bs .. | some (.slice _), .bs .., .nilS => true
 | some (.map _ _), .nilM, .map _ | some (.map _ _), .map _, .nilM => true
 | some (.func ..), .nilF, .func .. | some (.func ..), .func .., .nilF => true
 | some (.interface _), .nilI, .iface .. | some (.interface _), .iface .., .nilI => true
 | _, _, _ => false
def aStr (op : BinOp) (s t : List UInt8) : Option AV :=
 match op with
 | .add => if ((s.length + t.length : Nat) : Int) > 9223372036854775807 then none else some (.str (s ++ t))
 | .eql => some (.bool (s == t))
 | .neq => some (.bool !(s == t))
 | .lss => some (.bool (Op.bytesLess s t))
 | .leq => some (.bool (Op.bytesLess s t || s == t))
 | .gtr => some (.bool !(Op.bytesLess s t || s == t))
 | .geq => some (.bool !(Op.bytesLess s t))
 | _ => none
def aBin (P : Program) (op : BinOp) (t : TypeId) (xo yo : Operand) (x y : AV) : Option AV :=
 match x, y with
 | .str a, .str b => aStr op a b
 | x, y =>
  if aNilNe P t x y then (match op with | .eql => some (.bool false) | .neq => some (.bool true) | _ => none)
  else (toV x).bind fun a => (toV y).bind fun b => (pureOf P (do eqGuard op t xo yo a b; binOp op t a b)).bind ofV
def aBinH (P : Program) (H : Heap) (op : BinOp) (t : TypeId) (xo yo : Operand) (x y : AV) : Option AV :=
 match P.underlying t, x, y with
 | some (.pointer e), .ptr b v o, .ptr b' v' o' =>
  (sizeT P e).bind fun n => (hget H b v).bind fun _ => if n ≠ 0 ∧ b = b' ∧ v = v' then (match op with | .eql => some (.bool (o == o')) | .neq => some (.bool (!(o == o'))) | _ => none) else none
 | some (.interface _), .iface s v, .iface u w => if s = u then aBin P op t xo yo (.iface s v) (.iface u w) else (match op with | .eql => some (.bool false) | .neq => some (.bool true) | _ => none)
 | _, x, y => aBin P op t xo yo x y
def aLen (P : Program) (H : Heap) (t : TypeId) (x : AV) : Option AV :=
 match P.underlying t, x with
 | some .string, .str s => some (.int .i64 s.length)
 | some (.slice _), .nilS => some (.int .i64 0)
 | some (.slice _), .vs es _ => some (.int .i64 es.length)
 | some (.slice _), .bs s => some (.int .i64 s.len)
 | some (.map _ _), .nilM => some (.int .i64 0)
 | some (.map _ _), .map r => (hmap H r).bind fun es => if mfit es then some (.int .i64 es.length) else none
 | some (.array n _), _ => some (.int .i64 n)
 | _, _ => none
def keyEq : AV → AV → Option Bool
 | .str a, .str b => some (a == b)
 | .int k a, .int l b => if k = l then some (a == b) else none
 | _, _ => none
def keyT (P : Program) (t : TypeId) : Option (TypeId × TypeId) :=
 match P.underlying t with
 | some (.map k e) => match P.underlying k with
  | some (.int _) | some .string => some (k, e)
  | _ => none
 | _ => none
def keyFits (P : Program) (k : TypeId) : AV → Bool
 | .str _ => (match P.underlying k with | some .string => true | _ => false)
 | .int _ _ => (match P.underlying k with | some (.int _) => true | _ => false)
 | _ => false
def mfind (k : AV) : List (AV × AV) → Nat → Option (Option (Nat × AV))
 | [], _ => some none
 | (x, v) :: r, i => (keyEq k x).bind fun b => if b then some (some (i, v)) else mfind k r (i + 1)
def aLookup (P : Program) (H : Heap) (t : TypeId) (m k : AV) (ok : Bool) : Option AV :=
 (keyT P t).bind fun (kt, e) => if keyFits P kt k then
  (
    match m with
    | .nilM => some []
    | .map r => hmap H r
    | _ => none).bind fun es => (mfind k es 0).bind fun r =>
     (match r with | some (_, v) => some (v, true) | none => (zeroT P e).map fun z => (z, false)).map fun (v, b) =>
      if ok then .tup [v, .bool b] else v
 else none
def aMapPut (P : Program) (prot : Nat) (H : Heap) (t : TypeId) (m k v : AV) : Option Heap :=
 (keyT P t).bind fun (kt, _) => if keyFits P kt k then
  match m with
  | .map r => if prot ≤ r then (hmap H r).bind fun es => (mfind k es 0).map fun
    | some (i, _) => H.set r (Blk.map (es.modify i fun _ => (k, v)))
    | none => H.set r (Blk.map (es ++ [(k, v)]))
   else none
  | _ => none
 else none
def aDelete (P : Program) (prot : Nat) (H : Heap) (t : TypeId) (m k : AV) : Option Heap :=
 (keyT P t).bind fun (kt, _) => if keyFits P kt k then
  match m with
  | .map r => if prot ≤ r then (hmap H r).bind fun es => (mfind k es 0).map fun
    | some (i, _) => H.set r (Blk.map (es.eraseIdx i))
    | none => H
   else none
  | _ => none
 else none
def aClear (prot : Nat) (H : Heap) (m : AV) : Option Heap :=
 match m with
 | .map r => if prot ≤ r then (hmap H r).bind fun es => if mfit es then some (H.set r (Blk.map [])) else none else none
 | _ => none
def bytesOf : List AV → Option (List UInt8)
 | [] => some []
 | .int .u8 n :: r => (bytesOf r).map (UInt8.ofNat n.toNat :: ·)
 | _ => none
def runesOf : List AV → Option (List Int)
 | [] => some []
 | .int .i32 n :: r => (runesOf r).map (n :: ·)
 | _ => none
def encR (n : Int) : List UInt8 := (Utf8.encode n).data.toList
def aConvert (P : Program) (H : Heap) (src dst : TypeId) (x : AV) : Option (AV × Option Heap) :=
 match P.underlying src, P.underlying dst, x with
 | some .string, some (.slice e), .str s =>
  match P.underlying e with
  | some (.int .u8) => some (.bs ⟨H.length, 0, 0, s.length, 0, 1, false, false⟩, some (H ++ [Blk.cells 0 (s.map fun c => .int .u8 c.toNat)]))
  | _ => none
 | some (.slice e), some .string, x =>
  match P.underlying e with
  | some (.int .u8) => match x with
   | .str _ => none
   | x => (elemCells H 1 x).bind fun (_, cs) => (bytesOf cs).map fun l => (.str l, none)
  | some (.int .i32) => match x with
   | .str _ => none
   | x => (elemCells H 1 x).bind fun (_, cs) => (runesOf cs).map fun l => (.str (l.flatMap encR), none)
  | _ => none
 | some (.pointer t), some .unsafePointer, .ptr b ver off =>
  if off = 0 ∧ ver = 4 * t + 1 then (sizeT P t).bind fun n => (hget H b ver).bind fun cs => if n ≠ 0 ∧ cs.length ≠ 0 then some (.ptr b ver 0, none) else none else none
 | some .unsafePointer, some (.pointer t), .ptr b ver off =>
  if off = 0 ∧ ver = 4 * t + 1 then (sizeT P t).bind fun n => (hget H b ver).bind fun cs => if n ≠ 0 ∧ liesAt P P.depth t (cs.length / P.cellsOf t) 0 t 1 = true then some (.ptr b ver 0, none) else none else none
 | _, _, x => (toV1 x).bind fun v => ((pureOf P (convert src dst v)).bind ofV1).map fun r => (r, none)
def aMinMax (P : Program) (b : Builtin) (t : Array TypeId) (ty : TypeId) (args : List AV) : Option AV :=
 (toVs args).bind fun vs => match b with
  | .max => (pureOf P (Builtin.max_ t ty vs.toArray)).bind ofV1
  | .min => (pureOf P (Builtin.min_ t ty vs.toArray)).bind ofV1
  | _ => none
def hasAll (want : Array (String × TypeId)) (got : Array Method) : Bool := want.toList.all fun (name, sig) => got.any fun m => m.name == name && m.sig == sig
def aAssert (P : Program) (x : AV) (asserted : TypeId) (ok : Bool) : Option AV :=
 let fails : Option AV := if ok then (zeroT P asserted).map fun z => .tup [z, .bool false] else none
 let holds (v : AV) : Option AV := some (if ok then .tup [v, .bool true] else v)
 match x with
 | .nilI => (P.underlying asserted).bind fun _ => fails
 | .iface t v => match P.underlying asserted with
  | some (.interface want) => (P.info? t).bind fun i => if hasAll want i.methods then holds (.iface t v) else fails
  | some _ => if t = asserted then holds v else fails
  | none => none
 | _ => none
def aFollow (P : Program) : List FieldStep → TypeId → AV → Option (TypeId × AV)
 | [], t, x => some (t, x)
 | s :: r, _, x => match P.underlying s.struct with
  | some (.struct fs) => (fs[s.index]?).bind fun f => if s.deref then none else match x with
   | .agg cs => (rd P f.type cs f.offset).bind fun y => aFollow P r f.type y
   | _ => none
  | _ => none
def aMethod (P : Program) (t : TypeId) (v : AV) (name : String) : Option (FuncId × AV) :=
 (P.info? t).bind fun i => (i.methods.find? (·.name == name)).bind fun m =>
  (aFollow P m.path.toList t v).bind fun (xt, x) =>
   match m.func with
   | none => none
   | some (f, ptr) => match P.underlying xt with
    | some (.pointer _) => if ptr then some (f, x) else none
    | some _ => if ptr then none else some (f, x)
    | none => none
def fget (fr : List AV) (t : Nat) : AV := fr.getD t (.tup [])
def fput (fr : List AV) (d : Option Tmp) (v : AV) : List AV :=
 match d with
 | some d => fr.set d v
 | none => fr
def aEval (fr : List AV) : Operand → Option AV
 | .tmp t => some (fget fr t)
 | .const v => ofV v
 | .global _ => none
 | .func f => some (.func f [] [])
def aEvals (fr : List AV) : List Operand → Option (List AV)
 | [] => some []
 | x :: r => (aEval fr x).bind fun v => (aEvals fr r).map (v :: ·)
def aParts (fr : List AV) : List (Nat × Operand) → Option (List (Nat × AV))
 | [] => some []
 | (i, x) :: r => (aEval fr x).bind fun v => (aParts fr r).map ((i, v) :: ·)
def aOpt (fr : List AV) : Option Operand → Option (Option AV)
 | none => some none
 | some x => (aEval fr x).map some
abbrev CallT := Nat → FuncId → List AV → Heap → Option (AV × Option Heap)
def quiet (v : Option AV) : Option (AV × Option Heap) := v.map fun v => (v, none)
def loud (h : Option Heap) : Option (AV × Option Heap) := h.map fun h => (.tup [], some h)
def bytesOk : List AV → Bool
 | [] => true
 | .int .u8 n :: r => decide (0 ≤ n ∧ n < 256) && bytesOk r
 | _ => false
def aBuiltin (P : Program) (prot : Nat) (H : Heap) (b : Builtin) (ts : Array TypeId) (ty : TypeId) (args : List AV) : Option (AV × Option Heap) :=
 match b, args with
 | .append, [s, x] => if ts.size = 2 then aAppend P prot H ts s x else none
 | .copy, [d, x] => aCopy P prot H ts d x
 | .len, [x] => quiet ((ts[0]?).bind fun t => aLen P H t x)
 | .unsafeSliceData, [.nilS] => quiet (some .nil)
 | .unsafeSliceData, [.bs s] => if 0 < s.len then quiet (some (.ptr s.b s.ver s.off)) else none
 | .unsafeString, [.nil, .int .i64 0] => quiet (if ts.size = 2 then some (.str []) else none)
 | .unsafeString, [.ptr b ver off, .int .i64 n] => if ts.size = 2 ∧ off = 0 ∧ ver % 4 = 2 ∧ prot ≤ b ∧ 0 < n ∧ n ≤ 9223372036854775807 ∧ P.cellsOf 5 = 1 then
   (ts[0]?).bind fun pt => match P.underlying pt with
    | some (.pointer e) => if e = 5 then (hget H b ver).bind fun cs => (win cs 0 n.toNat).bind fun ws => if bytesOk ws then (bytesOf ws).map fun l => (.str l, some (H.set b .dead)) else none else none
    | _ => none
   else none
 | .clear, [m] => loud ((ts[0]?).bind fun t => (P.underlying t).bind fun _ => aClear prot H m)
 | .delete, [m, k] => loud ((ts[0]?).bind fun t => aDelete P prot H t m k)
 | .max, _ | .min, _ => quiet (aMinMax P b ts ty args)
 | _, _ => none
def aOp (P : Program) (call : CallT) (prot : Nat) (fr : List AV) (o : Oper) (H : Heap) : Option (AV × Option Heap) :=
 match o.op with
 | .move x | .assign x => quiet (aEval fr x)
 | .pick c a b => quiet ((aEval fr c).bind fun | .bool t => (aEval fr a).bind fun u => (aEval fr b).map fun v => if t then u else v | _ => none)
 | .alloc e => (zeroT P e).bind fun z => if z.cells.all AV.leaf = true then some (aNew (tagT P e) H z.cells) else none
 | .box e x => (aEval fr x).bind fun v => if v.cells.all AV.leaf = true then some (aNew (tagT P e) H v.cells) else none
 | .build t ps => quiet ((aParts fr ps.toList).bind fun l => aBuild P t l)
 | .buildSlice t n ps => (aParts fr ps.toList).bind fun l => aBuildSlice P H t n l
 | .load t a => match a with
  | .global g => quiet (gload P t H g)
  | a => quiet ((aEval fr a).bind fun a => aLoad P t H a)
 | .store t a x => loud ((aEval fr a).bind fun a => (aEval fr x).bind fun v => aStore P t prot H a v)
 | .nilCheck x => quiet ((aEval fr x).bind fun
   | .ptr b v o => some (.ptr b v o)
   | .vptr cs o => some (.vptr cs o)
   | _ => none)
 | .binOp op t x y _ => quiet ((aEval fr x).bind fun a => (aEval fr y).bind fun b => aBinH P H op t x y a b)
 | .unOp op _ x => quiet ((aEval fr x).bind fun a => (toV1 a).bind fun v => (pureOf P (Op.unary op v)).bind ofV1)
 | .convert s d x => (aEval fr x).bind fun a => aConvert P H s d a
 | .makeInterface t x => quiet ((aEval fr x).bind fun a => match P.underlying t with | some (.interface _) => none | none => none | some _ => some (.iface t a))
 | .makeFunc (.func f) first caps => quiet ((aEvals fr first.toList).bind fun a => (aEvals fr caps.toList).map fun c => .func f a c)
 | .makeMap _ none => some (.map H.length, some (H ++ [Blk.map []]))
 | .makeSlice t l c => (aEval fr l).bind fun l => (aEval fr c).bind fun c => aMakeSlice P H t l c
 | .slice t x lo hi mx => quiet ((aEval fr x).bind fun v => (aOpt fr lo).bind fun lo => (aOpt fr hi).bind fun hi => (aOpt fr mx).bind fun mx => aSlice P t v lo hi mx)
 | .fieldAddr s x f => quiet ((aEval fr x).bind fun a => aFieldAddr P s f a)
 | .field s x f => quiet ((aEval fr x).bind fun a => aField P s f a)
 | .indexAddr t x i => quiet ((aEval fr x).bind fun a => (aEval fr i).bind fun i => aIndexAddr P t a i)
 | .index t x i => quiet ((aEval fr x).bind fun a => (aEval fr i).bind fun i => aIndex P t a i)
 | .lookup t m k ok => quiet ((aEval fr m).bind fun m => (aEval fr k).bind fun k => aLookup P H t m k ok)
 | .mapUpdate t m k x | .insert t m k x => loud ((aEval fr m).bind fun m => (aEval fr k).bind fun k => (aEval fr x).bind fun v => aMapPut P prot H t m k v)
 | .extract t i => quiet ((aEval fr t).bind fun | .tup xs => xs[i]? | _ => none)
 | .call c => (aEvals fr c.args.toList).bind fun args =>
   match c.callee with
   | .builtin b => aBuiltin P prot H b c.argTypes o.type args
   | .value f => (aEval fr f).bind fun
    | .func g first caps => call prot g (first ++ args ++ caps) H
    | _ => none
   | .invoke rc name => (aEval fr rc).bind fun
    | .iface t v => (aMethod P t v name).bind fun (f, r) => call prot f (r :: args) H
    | _ => none
 | .typeAssert x _ t ok => quiet ((aEval fr x).bind fun v => aAssert P v t ok)
 | .range t x => (aEval fr x).bind fun v => aRange P H t v
 | .next x true => (aEval fr x).bind fun v => aNext prot H v
 | _ => none
def aYield (ops : Array Oper) (fr : List AV) (j : Nat) : Option Bool :=
 match ((ops[j]?).bind (·.dst)).bind (fr[·]?) with
 | some (.bool b) => some b
 | _ => none
def aWanted (ops : Array Oper) (fr : List AV) (o : Oper) : Bool := Region.wanted o (aYield ops fr)
def aSeq (P : Program) (call : CallT) (prot : Nat) (ops : Array Oper) : List Oper → List AV → Heap → Option (List AV × Heap)
 | [], fr, H => some (fr, H)
 | o :: r, fr, H =>
  if aWanted ops fr o then (aOp P call prot fr o H).bind fun (v, h) => aSeq P call prot ops r (fput fr o.dst v) (h.getD H)
  else aSeq P call prot ops r (fput fr o.dst (.tup [])) H
structure Rec where
 i : Nat
 o : Oper
 fr : List AV
 H : Heap
 wanted : Bool
 v : AV
 eff : Option Heap
def aTrace (P : Program) (call : CallT) (prot : Nat) (ops : Array Oper) : Nat → List Oper → List AV → Heap → Option (List Rec × List AV × Heap)
 | _, [], fr, H => some ([], fr, H)
 | i, o :: r, fr, H =>
  if aWanted ops fr o then (aOp P call prot fr o H).bind fun (v, h) =>
   (aTrace P call prot ops (i + 1) r (fput fr o.dst v) (h.getD H)).map fun (l, fr', H') => (⟨i, o, fr, H, true, v, h⟩ :: l, fr', H')
  else (aTrace P call prot ops (i + 1) r (fput fr o.dst (.tup [])) H).map fun (l, fr', H') => (⟨i, o, fr, H, false, .tup [], none⟩ :: l, fr', H')
def mask (acc : List Nat) (o : Oper) : Nat :=
 o.after.toList.foldl (fun s e => if Region.binds .any e then s ||| 2 ^ e.on ||| acc.getD e.on 0 else s) 0
def befs (acc : List Nat) : List Oper → List Nat
 | [] => acc
 | o :: r => befs (acc ++ [mask acc o]) r
def bound (bef : List Nat) (i j : Nat) : Bool := (bef.getD j 0).testBit i
def namesOf (ops : Array Oper) (o : Oper) : List Tmp :=
 (o.op.operands.toList.filterMap fun | .tmp t => some t | _ => none) ++ (match o.guard with | some (j, _) => ((ops[j]?).bind (·.dst)).toList | none => [])
def ssaOk (ops : Array Oper) : Bool :=
 let B := befs [] ops.toList
 ops.toList.zipIdx.all fun (o, j) =>
  (o.after.toList.all fun e => !Region.binds .any e || decide (e.on < j)) &&
  ops.toList.zipIdx.all fun (q, i) => i == j ||
   (
     (match q.dst, o.dst with | some a, some b => a != b | _, _ => true) &&
     (match q.dst with | none => true | some t => !(namesOf ops o).contains t || (if i < j then bound B i j else bound B j i)))
def regsOk : Code → Bool
 | .region _ ops draw => !draw || ssaOk ops
 | .seq a b => regsOk a && regsOk b
 | .cond _ a b => regsOk a && regsOk b
 | .block _ c => regsOk c
 | .loop c => regsOk c
 | .scope c => regsOk c
 | _ => true
def chained (bef : List Nat) : List Rec → Bool
 | a :: b :: r => bound bef a.i b.i && chained bef (b :: r)
 | _ => true
def mayAt (bef : List Nat) (es : List Rec) (i k : Nat) : Bool :=
 (es.take k).all (fun e => !bound bef i e.i) && (es.drop k).all (fun e => !bound bef e.i i)
def sameAt (P : Program) (call : CallT) (prot : Nat) (r : Rec) (K : Heap) : Bool :=
 match aOp P call prot r.fr r.o K with
 | some (v, none) => AV.beq v r.v
 | _ => false
def drawOk (P : Program) (call : CallT) (prot : Nat) (bef : List Nat) (l : List Rec) (H : Heap) : Bool :=
 let es := l.filter (·.eff.isSome)
 let ks := H :: es.map fun e => e.eff.getD []
 chained bef es && l.all fun r => r.eff.isSome || !r.wanted ||
  (List.range (es.length + 1)).all fun k => k == (es.filter (fun e => decide (e.i < r.i))).length || !mayAt bef es r.i k || sameAt P call prot r (ks.getD k [])
def beqBlk : Blk → Blk → Bool
 | .cells v cs, .cells w ds => decide (v = w) && AV.beqL cs ds
 | .map es, .map fs => beqE es fs
 | .dead, .dead => true
 | _, _ => false
def beqHp : Heap → Heap → Bool
 | [], [] => true
 | a :: r, b :: s => beqBlk a b && beqHp r s
 | _, _ => false
def KDl (P : Program) (call : CallT) (prot : Nat) : List (Rec × Bool) → Heap → Option Heap
 | [], H => some H
 | (e, b) :: r, H => if b then (aOp P call prot e.fr e.o H).bind fun (_, h) => h.bind fun K => KDl P call prot r K else KDl P call prot r H
def downs (bef : List Nat) : List Rec → List Rec → List (List Bool) → List (List Bool)
 | _, [], Ds => Ds
 | done, e :: r, Ds => downs bef (done ++ [e]) r (Ds.map (· ++ [false]) ++ (Ds.filter fun D => (done.zip D).all fun (x, b) => !bound bef x.i e.i || b).map (· ++ [true]))
def compatD (bef : List Nat) (z : List (Rec × Bool)) (r : Rec) : Bool := z.all fun (x, b) => (!bound bef x.i r.i || b) && (!b || !bound bef r.i x.i)
def addD (z : List (Rec × Bool)) (j : Nat) : List (Rec × Bool) := z.map fun (x, b) => (x, b || x.i == j)
def drawOk2 (P : Program) (call : CallT) (prot : Nat) (bef : List Nat) (l : List Rec) (H H' : Heap) : Bool :=
 let es := l.filter (·.eff.isSome)
 ((downs bef [] es [[]]).all fun D =>
  match KDl P call prot (es.zip D) H with
  | none => false
  | some K =>
   ((es.zip D).all fun (e, b) => b || !compatD bef (es.zip D) e || match aOp P call prot e.fr e.o K, KDl P call prot (addD (es.zip D) e.i) H with
    | some (v, some K1), some K2 => AV.beq v e.v && beqHp K1 K2
    | _, _ => false) &&
   l.all fun r => r.eff.isSome || !r.wanted || !compatD bef (es.zip D) r || sameAt P call prot r K) &&
 match KDl P call prot (es.map fun e => (e, true)) H with
 | some K => beqHp K H'
 | none => false
inductive AExit where
 | normal
 | exit (id : Nat)
 | ret
 deriving DecidableEq, Inhabited
abbrev RunT := List AV → Heap → Option (AExit × List AV × Heap)
def iter : Nat → RunT → RunT
 | 0, _, _, _ => none
 | n + 1, body, fr, H => (body fr H).bind fun
  | (.normal, fr', H') => iter n body fr' H'
  | r => some r
def aCode (P : Program) (call : CallT) (lp : RunT → RunT) (prot : Nat) : Code → RunT
 | .skip => fun fr H => some (.normal, fr, H)
 | .region _ ops draw => fun fr H =>
  if draw then (aTrace P call prot ops 0 ops.toList fr H).bind fun (l, fr', H') => if drawOk P call prot (befs [] ops.toList) l H || drawOk2 P call prot (befs [] ops.toList) l H H' then some (.normal, fr', H') else none
  else (aSeq P call prot ops ops.toList fr H).map fun (fr', H') => (.normal, fr', H')
 | .seq a b => fun fr H => (aCode P call lp prot a fr H).bind fun
  | (.normal, fr', H') => aCode P call lp prot b fr' H'
  | r => some r
 | .cond c a b => fun fr H => (aEval fr c).bind fun
  | .bool t => if t then aCode P call lp prot a fr H else aCode P call lp prot b fr H
  | _ => none
 | .block id c => fun fr H => (aCode P call lp prot c fr H).map fun (e, fr', H') => (if e = .exit id then .normal else e, fr', H')
 | .loop c => lp (aCode P call lp prot c)
 | .exit id => fun fr H => some (.exit id, fr, H)
 | .ret => fun fr H => some (.ret, fr, H)
 | .scope c => aCode P call lp prot c
 | .label _ => fun fr H => some (.normal, fr, H)
 | _ => fun _ _ => none
def aResult (P : Program) (fr : List AV) (H : Heap) : ResultVar → Option AV
 | .tmp t => some (fget fr t)
 | .cell a t => aLoad P t H (fget fr a)
def aResults (P : Program) (fr : List AV) (H : Heap) : List ResultVar → Option (List AV)
 | [] => some []
 | r :: l => (aResult P fr H r).bind fun v => (aResults P fr H l).map (v :: ·)
def packR : List AV → AV
 | [v] => v
 | l => .tup l
mutual
def frP (H : Heap) (base : Nat) : Nat → AV → Option AV
 | 0, _ => none
 | n + 1, v =>
  match v with
  | .bs s => if base ≤ s.b ∧ 0 < s.sz ∧ (s.ag || s.sz == 1) = true then
    (hget H s.b s.ver).bind fun cs => (win cs s.off (s.len * s.sz)).bind fun c => (frL H base n c).map fun c => .vs (chunk s.sz s.ag s.len c) (s.ex && s.cap == s.len)
   else none
  | .agg cs => (frL H base n cs).map .agg
  | .tup cs => (frL H base n cs).map .tup
  | .iface t v => (frP H base n v).map (.iface t)
  | .ptr b ver off => if base ≤ b then (hget H b ver).bind fun cs => (frL H base n cs).map fun c => .vptr c off else none
  | .map _ | .it _ => none
  | .func f a b => if AV.plL a && AV.plL b then some (.func f a b) else none
  | v => some v
def frL (H : Heap) (base : Nat) : Nat → List AV → Option (List AV)
 | _, [] => some []
 | 0, _ => none
 | n + 1, v :: r => (frP H base n v).bind fun v => (frL H base n r).map (v :: ·)
end
def snap (H : Heap) : List AV → Option (List AV × Bool)
 | [] => some ([], false)
 | .bs s :: r => if 0 < s.sz ∧ (s.ag || s.sz == 1) = true then
   (hget H s.b s.ver).bind fun cs => (win cs s.off (s.len * s.sz)).bind fun c => if AV.plL c then (snap H r).map fun (l, _) => (.vs (chunk s.sz s.ag s.len c) false :: l, true) else none
  else none
 | v :: r => (snap H r).map fun (l, b) => (v :: l, b)
def killA (prot : Nat) : Heap → List AV → Option Heap
 | H, [] => some H
 | H, .bs s :: r => if prot ≤ s.b then killA prot (H.set s.b .dead) r else none
 | H, _ :: r => killA prot H r
def flat0 : AV → Bool
 | .bool _ | .int .. | .str _ | .nil | .nilS | .nilM | .nilF | .nilI | .adr _ => true
 | _ => false
def flat1 : AV → Bool
 | .agg cs => cs.all flat0
 | .iface _ v => flat0 v
 | v => flat0 v
def flat : AV → Bool
 | .tup cs => cs.all flat1
 | v => flat1 v
def idxByte (s : List UInt8) (c : UInt8) : Int :=
 match (List.range s.length).find? fun i => s.getD i 0 == c with
 | some i => (i : Nat)
 | none => -1
def aExt0 (fn : Func) (args : List AV) : Option AV :=
 if fn.name = "internal/bytealg.IndexByteString" ∧ fn.origin = "" then
  match args with
  | [.str s, .int .u8 c] => some (.int .i64 (idxByte s c.toNat.toUInt8))
  | _ => none
 else if fn.name = "internal/abi.NoEscape" ∧ fn.origin = "" then
  match args with
  | [x] => some x
  | _ => none
 else none
def hnd (P : Program) (t : TypeId) : AV := .adr ⟨P.globals.size, t, none⟩
def ofHnd (P : Program) (a : Addr) : Option TypeId := if a.block == P.globals.size then some a.off else none
def rtypeV (P : Program) (t : TypeId) : Option AV := (P.cutTypes.find? (·.1 == "internal/reflectlite.rtype")).map fun r => .iface r.2 (.agg [hnd P t])
def valueV (P : Program) (t : TypeId) (p : AV) (flags : Nat) : Option AV := (pureOf P (Extern.Rtype.kind t)).map fun k => .agg [hnd P t, p, .int .u64 (Int.ofNat (k + 128 + flags))]
def unpacked (P : Program) (t : TypeId) : Bool := (pureOf P (Extern.Rtype.noPack "a Value asked or handed on" t)).isSome
def isNilB (P : Program) (t : TypeId) (H : Heap) (p : AV) : Option AV :=
 (aLoad P t H p).bind fun
  | .nil | .nilS | .nilM | .nilF | .nilI => some (.bool true)
  | .ptr .. | .vptr .. | .vs .. | .bs _ | .map _ | .func .. | .iface .. => some (.bool false)
  | _ => none
def elemB (P : Program) (t : TypeId) (H : Heap) (p : AV) : Option AV :=
 (aLoad P t H p).bind fun q => (pureOf P (Extern.Rtype.elem? t)).bind fun
  | some e => match q with
   | .ptr .. => valueV P e q 256
   | _ => none
  | none => none
def toVi : AV → Option Value
 | .iface t v => (toV v).map (.iface t)
 | v => toV v
def toVis : List AV → Option (List Value)
 | [] => some []
 | v :: r => (toVi v).bind fun x => (toVis r).map (x :: ·)
def ofVp : Value → Option AV
 | .pointer (some a) => some (.adr a)
 | v => ofV0 v
def ofVps : List Value → Option (List AV)
 | [] => some []
 | v :: r => (ofVp v).bind fun x => (ofVps r).map (x :: ·)
def ofVi : Value → Option AV
 | .iface t (.agg cs) => (ofVps cs.toList).map fun l => .iface t (.agg l)
 | .iface t v => (ofVp v).map (.iface t)
 | v => ofVp v
def pureExts : List String := ["(internal/reflectlite.rtype).Elem", "(internal/reflectlite.rtype).Comparable", "(internal/reflectlite.rtype).Implements", "(internal/reflectlite.rtype).AssignableTo", "(*internal/abi.Type).Kind"]
def aExt (P : Program) (prot : Nat) (H : Heap) (fn : Func) (args : List AV) : Option (AV × Option Heap) :=
 if fn.origin = "" then
  if fn.name = "internal/reflectlite.TypeOf" then
   match args with
   | [.nilI] => some (.nilI, none)
   | [.iface t _] => (rtypeV P t).map fun r => (r, none)
   | _ => none
  else if fn.name = "internal/reflectlite.ValueOf" then
   match args with
   | [.iface t v] => if v.cells.all AV.leaf = true then (valueV P t (.ptr H.length 0 0) 0).map fun r => (r, some (H ++ [Blk.cells 0 v.cells])) else none
   | _ => none
  else if fn.name = "(internal/reflectlite.Value).Type" then
   match args with
   | [.agg [.adr h, .ptr _ _ _, .int .u64 f]] => if f = 0 then none else (ofHnd P h).bind fun t => (rtypeV P t).map fun r => (r, none)
   | _ => none
  else if fn.name = "(internal/reflectlite.Value).IsNil" then
   match args with
   | [.agg [.adr h, .ptr b ver o, .int .u64 f]] => if f = 0 then none else (ofHnd P h).bind fun t => if unpacked P t && [18, 19, 20, 21, 22, 23, 26].contains (f.toNat % 32) then (isNilB P t H (.ptr b ver o)).map fun r => (r, none) else none
   | _ => none
  else if fn.name = "(internal/reflectlite.Value).Elem" then
   match args with
   | [.agg [.adr h, .ptr b ver o, .int .u64 f]] => if f = 0 then none else (ofHnd P h).bind fun t => if unpacked P t && f.toNat % 32 == 22 then (elemB P t H (.ptr b ver o)).map fun r => (r, none) else none
   | _ => none
  else if fn.name = "(internal/reflectlite.Value).Set" then
   match args with
   | [.agg [.adr h, .ptr b ver o, .int .u64 f], .agg [.adr k, .ptr b' ver' o', .int .u64 g]] => if f = 0 ∨ g = 0 ∨ f.toNat / 256 % 2 = 0 then none else
     (ofHnd P h).bind fun t => (ofHnd P k).bind fun s => if unpacked P t && unpacked P s && (pureOf P (Extern.Rtype.directlyAssignable t s)).getD false then
      (aLoad P s H (.ptr b' ver' o')).bind fun v => loud (aStore P t prot H (.ptr b ver o) v) else none
   | _ => none
  else if pureExts.contains fn.name then
   (Extern.find fn).bind fun e => (toVis args).bind fun l => (pureOf P (e l.toArray)).bind fun v => (ofVi v).map fun r => (r, none)
  else quiet (aExt0 fn args)
 else none
structure Cfg where
 P : Program
 pure : FuncId → Bool
 ok : FuncId → Bool
 shut : FuncId → Bool := fun _ => false
 trim : FuncId → Bool := fun _ => false
 eats : FuncId → Bool := fun _ => false
 own : CallT := fun _ _ _ _ => none
def aBody (P : Program) (call : CallT) (lp : RunT → RunT) (prot : Nat) (fn : Func) (c : Code) (args : List AV) (H : Heap) : Option (AV × Heap) :=
 (aCode P call lp prot c (args ++ List.replicate (fn.ntmps - args.length) (.tup [])) H).bind fun (e, fr, H') =>
  match e with
  | .exit _ => none
  | _ => (aResults P fr H' fn.results.toList).map fun l => (packR l, H')
def aCall (C : Cfg) : Nat → CallT
 | 0, _, _, _, _ => none
 | k + 1, prot, f, args, H =>
  if C.ok f = false then (if C.pure f || C.shut f then none else C.own prot f args H) else
  (C.P.funcs[f]?).bind fun fn => match fn.body with
  | none => if C.shut f then none else (aExt C.P prot H fn args).bind fun r => if C.pure f && r.2.isSome then none else some r
  | some c =>
   if C.pure f then if prot ≤ H.length then
    (snap H args).bind fun (args', sn) => (aBody C.P (aCall C k) (iter k) H.length fn c args' H).bind fun (r, H') =>
     (frP H' H.length k r).bind fun r' => if sn then (if flat r' then some (r', none) else if C.eats f = false then none else
      (killA prot H args).bind fun Hk => (aBody C.P (aCall C k) (iter k) H.length fn c args' Hk).bind fun (r, H') => (frP H' H.length k r).map fun r' => (r', some Hk)) else some (r', none)
    else none
   else if C.shut f then if AV.plL args then (aBody C.P (aCall C k) (iter k) 0 fn c args []).bind fun (r, _) => if flat r then some (r, none) else none else none
   else if C.trim f then (aBody C.P (aCall C k) (iter k) prot fn c args H).bind fun (r, H') =>
    (frP H' H.length k r).bind fun r' => if trimOk H H' then some (r', some (H'.take H.length)) else none
   else (aBody C.P (aCall C k) (iter k) prot fn c args H).map fun (r, H') => (r, some H')
end Go.Abs

