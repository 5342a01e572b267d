/- A deterministic evaluator of the model's code on data values ('DV'): slices that are not written any more are plain lists, what is written lies in a small store. Definitions only. -/
import Derived.Calls
import Derived.Defers
import Derived.Orders
namespace Go.Dv
open Go

/-- A program, with quick ways to its types and functions. -/
structure Types where
  prog : Program
  info? : TypeId → Option TypeInfo
  ok : ∀ t i, info? t = some i → prog.info? t = some i
  func : FuncId → Option Func
  fok : ∀ f fn, func f = some fn → prog.funcs[f]? = some fn

def namedOf : TypeDesc → Option TypeId
  | .named _ u => some u
  | _ => none

def Types.underlying (P : Types) (t : TypeId) : Option TypeDesc :=
  match P.info? t with
  | some i => match namedOf i.desc with
    | some u => (P.info? u).map (·.desc)
    | none => some i.desc
  | none => none

theorem Types.und {P : Types} {t : TypeId} {d : TypeDesc} (h : P.underlying t = some d) : P.prog.underlying t = some d := by
  unfold Types.underlying at h
  unfold Program.underlying
  split at h
  · rename_i i hi
    rw [P.ok t i hi]
    split at h
    · rename_i u hu
      cases hd : i.desc <;> rw [hd] at hu <;> simp only [namedOf, Option.some.injEq, reduceCtorEq] at hu
      subst hu
      rw [Option.map_eq_some_iff] at h
      obtain ⟨j, hj, rfl⟩ := h
      have := P.ok _ j hj
      obtain ⟨desc, _⟩ := i
      simp only at hd
      subst hd
      simp [this]
    · rename_i hn
      injection h with h; subst h
      obtain ⟨desc, _⟩ := i
      cases desc <;> simp_all [namedOf]
  · cases h

/-- A value as data. 'undef': nothing is known of it. 'look': a pointer into memory that is not written any more, with the cells from there on. 'sl': a slice of such memory, row by row ('ex': its capacity is its length). 'ref', 'msl', 'mref', 'iter': into the store. -/
inductive DV where
  | undef
  | bool (b : Bool)
  | int (k : IntKind) (n : Int)
  | str (s : List UInt8)
  | agg (cs : List DV)
  | tup (vs : List DV)
  | nilp
  | look (cs : List DV)
  | ref (b off : Nat)
  | nils
  | sl (rows : List (List DV)) (ex : Bool)
  | msl (b off sz len : Nat) (cap : Option Nat)
  | nilm
  | mref (b : Nat)
  | nilf
  | fn (f : Fn) (first captured : List DV)
  | nili
  | iface (t : TypeId) (v : DV)
  | iter (b : Nat)
  deriving Inhabited

/-- How a row of cells in the store may be used: 'exact': it is as long as it is; 'grown': append laid it, there may be room behind it; 'text': the same, of bytes: what is there is not written again, what is behind it may be; 'fixed': it is not written any more. -/
inductive Kind where
  | exact (t : TypeId) | grown (t : TypeId) | text (t : TypeId) | fixed
  deriving DecidableEq, Inhabited

/-- May its cells be written? -/
def Kind.open : Kind → Bool
  | .exact _ | .grown _ => true
  | _ => false

inductive Box where
  | dead
  | cells (cs : List DV) (k : Kind)
  | map (es : List (DV × DV × Nat)) (clock : Nat)
  | siter (s : List UInt8) (pos : Nat)
  deriving Inhabited

abbrev Store := List Box

/-- How a call is evaluated: 'pure': on an empty store, its result is data; 'read': on the store, which it only reads; 'trunc': on the store, what it lays is forgotten behind it; 'keep': what it lays stays. -/
inductive Mode where
  | pure | read | trunc | keep
  deriving DecidableEq, Inhabited

/-- Are all references of a value below n? -/
def DV.under (n : Nat) : DV → Bool
  | .agg cs => underAll n cs
  | .tup vs => underAll n vs
  | .ref b _ => decide (b < n)
  | .msl b _ _ _ _ => decide (b < n)
  | .mref b => decide (b < n)
  | .iter b => decide (b < n)
  | .fn _ first captured => underAll n first && underAll n captured
  | .iface _ v => v.under n
  | _ => true
where
  underAll (n : Nat) : List DV → Bool
    | [] => true
    | d :: ds => d.under n && underAll n ds

/-- One cell's value. -/
def DV.atom : DV → Bool
  | .agg _ | .tup _ | .undef => false
  | _ => true

def DV.cells : DV → Option (List DV)
  | .agg cs => some cs
  | .tup _ | .undef => none
  | d => some [d]

def zcell : Value → Option DV
  | .bool b => some (.bool b)
  | .int k n => some (.int k n)
  | .string s => some (.str s.data.toList)
  | .pointer none => some .nilp
  | .slice none 0 0 => some .nils
  | .map none => some .nilm
  | .nilFunc => some .nilf
  | .nilIface => some .nili
  | _ => none

def zcells : List Value → Option (List DV)
  | [] => some []
  | v :: vs => match zcell v, zcells vs with
    | some d, some ds => some (d :: ds)
    | _, _ => none

def zdv : Value → Option DV
  | .agg cs => (zcells cs.toList).map .agg
  | v => zcell v

section ops
variable (P : Types)

def sizeD (t : TypeId) : Option Nat := (P.info? t).map (·.size)
def bytesD (t : TypeId) : Option Nat := (P.info? t).map (·.bytes)
def aggD (t : TypeId) : Option Bool := (P.underlying t).map fun | .struct _ | .array _ _ => true | _ => false
def zeroD (t : TypeId) : Option DV := ((P.info? t).bind (·.zero)).bind zdv

/-- n cells of a list, from a place on. -/
def piece (cs : List DV) (off n : Nat) : Option (List DV) :=
  if off + n ≤ cs.length then some ((cs.drop off).take n) else none

/-- What lies at a place, at a type. -/
def atPlace (cs : List DV) (off : Nat) (agg : Bool) (n : Nat) : Option DV :=
  if agg then (piece cs off n).map .agg else cs[off]?

def loadD (agg : Bool) (n : Nat) (S : Store) : DV → Option DV
  | .look cs => atPlace cs 0 agg n
  | .ref b off => match S[b]? with
    | some (.cells cs _) => atPlace cs off agg n
    | _ => none
  | _ => none

def splice (cs : List DV) (off : Nat) (xs : List DV) : List DV := cs.take off ++ (xs ++ cs.drop (off + xs.length))

/-- A value may be laid into a box: the box may be written, and what the value refers to is not younger, or the box is of this call. -/
def escOk (ro lim b : Nat) (d : DV) : Bool := decide (ro ≤ b) && (d.under (b + 1) || decide (lim ≤ b))

def storeD (ro lim n : Nat) (S : Store) (a x : DV) : Option (Nat × Store) :=
  match a with
  | .ref b off => match S[b]? with
    | some (.cells cs k) =>
      match x with
      | .agg xs =>
        if xs.length = n ∧ off + n ≤ cs.length ∧ k.open = true ∧ xs.all DV.atom = true ∧ escOk ro lim b (.agg xs) = true then
          some (b, S.set b (.cells (splice cs off xs) k)) else none
      | x =>
        if n = 1 ∧ off < cs.length ∧ k.open = true ∧ x.atom = true ∧ escOk ro lim b x = true then
          some (b, S.set b (.cells (cs.set off x) k)) else none
    | _ => none
  | _ => none

def boxD (S : Store) (t : TypeId) (x : DV) : Option (DV × Store) :=
  match x.cells with
  | some cs => some (.ref S.length 0, S ++ [.cells cs (.exact t)])
  | none => none

def fillD (place : Nat → Option (Nat × Nat)) (cells : List DV) : List (Nat × DV) → Option (List DV)
  | [] => some cells
  | (i, v) :: rest =>
    match place i, v.cells with
    | some (off, size), some xs =>
      if xs.length ≠ size ∨ off + xs.length > cells.length then none else fillD place (splice cells off xs) rest
    | _, _ => none

def buildD (t : TypeId) (parts : List (Nat × DV)) : Option DV :=
  match zeroD P t with
  | some (.agg zero) =>
    match P.underlying t with
    | some (.struct fields) =>
      if (fields.toList.all fun f => (sizeD P f.type).isSome) = true then (fillD (fun i => (fields[i]?).bind fun f => (sizeD P f.type).map fun n => (f.offset, n)) zero parts).map .agg else none
    | some (.array _ elem) => (sizeD P elem).bind fun size => (fillD (fun i => some (i * size, size)) zero parts).map .agg
    | _ => none
  | _ => none

/-- n times the same cells. -/
def repCells : Nat → List DV → List DV
  | 0, _ => []
  | n + 1, z => z ++ repCells n z

def makeSliceD (S : Store) (t : TypeId) (len cap : DV) : Option (DV × Store) :=
  match P.underlying t, len, cap with
  | some (.slice elem), .int .i64 l, .int .i64 c =>
    match sizeD P elem, bytesD P elem, (zeroD P elem).bind DV.cells with
    | some size, some bytes, some z =>
      if z.length = size ∧ 0 ≤ l ∧ l ≤ c ∧ c ≤ 1099511627776 ∧ bytes * c ≤ 281474976710656 then
        some (.msl S.length 0 size l.toNat (some c.toNat), S ++ [.cells (repCells c.toNat z) (.exact elem)])
      else none
    | _, _, _ => none
  | _, _, _ => none

def fieldAddrD (t : TypeId) (f : Nat) (x : DV) : Option DV :=
  match P.underlying t with
  | some (.struct fields) => match fields[f]? with
    | some fd =>
      match sizeD P fd.type with
      | some 0 => none
      | some _ => match x with
        | .look cs => some (.look (cs.drop fd.offset))
        | .ref b off => some (.ref b (off + fd.offset))
        | _ => none
      | none => none
    | none => none
  | _ => none

def indexAddrD (t : TypeId) (x i : DV) : Option DV :=
  match i with
  | .int _ n =>
    if 0 ≤ n then
      match P.underlying t, x with
      | some (.slice elem), .sl rows _ =>
        match sizeD P elem, rows[n.toNat]? with
        | some size, some r => if r.length = size then some (.look r) else none
        | _, _ => none
      | some (.slice elem), .msl b off sz len _ =>
        match sizeD P elem with
        | some size => if size = sz ∧ n.toNat < len then some (.ref b (off + n.toNat * sz)) else none
        | none => none
      | some (.array len elem), .ref b off =>
        match sizeD P elem with
        | some size => if n.toNat < len then some (.ref b (off + n.toNat * size)) else none
        | none => none
      | some (.array len elem), .look cs =>
        match sizeD P elem with
        | some size => if n.toNat < len then some (.look (cs.drop (n.toNat * size))) else none
        | none => none
      | _, _ => none
    else none
  | _ => none

def partD (t : TypeId) (cs : List DV) (off : Nat) : Option DV :=
  match aggD P t, sizeD P t with
  | some agg, some n => atPlace cs off agg n
  | _, _ => none

def fieldD (t : TypeId) (f : Nat) (x : DV) : Option DV :=
  match P.underlying t, x with
  | some (.struct fields), .agg cs => match fields[f]? with
    | some fd => partD P fd.type cs fd.offset
    | none => none
  | _, _ => none

def indexD (t : TypeId) (x i : DV) : Option DV :=
  match i with
  | .int _ n =>
    if 0 ≤ n then
      match P.underlying t, x with
      | some (.array len elem), .agg cs =>
        match sizeD P elem with
        | some size => if n.toNat < len then partD P elem cs (n.toNat * size) else none
        | none => none
      | some .string, .str s => (s[n.toNat]?).map fun b => .int .u8 b.toNat
      | _, _ => none
    else none
  | _ => none

def boundD (y : Nat) : DV → Option Nat
  | .int _ n => if 0 ≤ n ∧ n ≤ y then some n.toNat else none
  | _ => none

/-- The bounds of 'x[lo:hi]', 'x[lo:hi:mx]'. -/
def boundsD (len cap : Nat) (lo hi mx : Option DV) : Option (Nat × Nat × Nat) :=
  match (match mx with | some v => boundD cap v | none => some cap) with
  | some m =>
    match (match hi with | some v => boundD m v | none => if mx.isNone then some len else none) with
    | some h =>
      match (match lo with | some v => boundD h v | none => some 0) with
      | some l => some (l, h, m)
      | none => none
    | none => none
  | none => none

def chunk : Nat → Nat → List DV → Option (List (List DV))
  | _, 0, _ => some []
  | sz, n + 1, cs => if sz ≤ cs.length then (chunk sz n (cs.drop sz)).map (cs.take sz :: ·) else none

def sliceD (t : TypeId) (x : DV) (lo hi mx : Option DV) : Option DV :=
  match P.underlying t, x with
  | some .string, .str s =>
    match boundsD s.length s.length lo hi none with
    | some (l, h, _) => if mx.isNone then some (.str ((s.take h).drop l)) else none
    | none => none
  | some (.slice elem), .nils =>
    match boundsD 0 0 lo hi mx, sizeD P elem with
    | some _, some _ => some .nils
    | _, _ => none
  | some (.slice elem), .sl rows ex =>
    match boundsD rows.length rows.length lo hi mx, sizeD P elem with
    | some (l, h, m), some size =>
      if (rows.all fun r => decide (r.length = size)) = true then some (.sl ((rows.take h).drop l) ((mx.isSome || ex) && decide (h = m))) else none
    | _, _ => none
  | some (.slice elem), .msl b off sz len cap =>
    match sizeD P elem with
    | some size =>
      if size = sz then
        match cap with
        | some c => match boundsD len c lo hi mx with
          | some (l, h, m) => some (.msl b (if m = l then off else off + l * sz) sz (h - l) (some (m - l)))
          | none => none
        | none => match mx with
          | none => match boundsD len len lo hi none with
            | some (l, h, _) => if l = 0 then some (.msl b off sz h none) else if l < h then some (.msl b (off + l * sz) sz (h - l) none) else none
            | none => none
          | some _ => none
      else none
    | none => none
  | some (.array n elem), .ref b off =>
    match boundsD n n lo hi mx, sizeD P elem with
    | some (l, h, m), some size => some (.msl b (if m = l then off else off + l * size) size (h - l) (some (m - l)))
    | _, _ => none
  | _, _ => none

/-- The fields of two structs, one behind the other. -/
def fieldsEq (eq : TypeId → DV → DV → Option Bool) (xs ys : List DV) : List Field → Option Bool
  | [] => some true
  | f :: fs =>
    if f.name ≠ "_" then
      match partD P f.type xs f.offset, partD P f.type ys f.offset with
      | some a, some b => match eq f.type a b with
        | some true => fieldsEq eq xs ys fs
        | some false => some false
        | none => none
      | _, _ => none
    else fieldsEq eq xs ys fs

def elemsEq (eq : TypeId → DV → DV → Option Bool) (elem : TypeId) (n : Nat) (xs ys : List DV) : List Nat → Option Bool
  | [] => some true
  | i :: is =>
    match partD P elem xs (i * n), partD P elem ys (i * n) with
    | some a, some b => match eq elem a b with
      | some true => elemsEq eq elem n xs ys is
      | some false => some false
      | none => none
    | _, _ => none

/-- '==' at a type, as the model follows the type. -/
def eqT : Nat → TypeId → DV → DV → Option Bool
  | 0, _, _, _ => none
  | d + 1, t, x, y =>
    match P.underlying t, x, y with
    | some .bool, .bool a, .bool b => some (a == b)
    | some (.int _), .int k a, .int k' b => if k = k' then some (a == b) else none
    | some .string, .str a, .str b => some (a == b)
    | some (.pointer _), .nilp, .nilp => some true
    | some (.pointer _), .nilp, .ref _ _ => some false
    | some (.pointer _), .nilp, .look _ => some false
    | some (.pointer _), .ref _ _, .nilp => some false
    | some (.pointer _), .look _, .nilp => some false
    | some (.interface _), .nili, .nili => some true
    | some (.interface _), .nili, .iface _ _ => some false
    | some (.interface _), .iface _ _, .nili => some false
    | some (.slice _), .nils, .nils => some true
    | some (.slice _), .nils, .sl _ _ => some false
    | some (.slice _), .nils, .msl _ _ _ _ _ => some false
    | some (.slice _), .sl _ _, .nils => some false
    | some (.slice _), .msl _ _ _ _ _, .nils => some false
    | some (.map _ _), .nilm, .nilm => some true
    | some (.map _ _), .nilm, .mref _ => some false
    | some (.map _ _), .mref _, .nilm => some false
    | some (.func _ _ _), .nilf, .nilf => some true
    | some (.func _ _ _), .nilf, .fn _ _ _ => some false
    | some (.func _ _ _), .fn _ _ _, .nilf => some false
    | some (.struct fields), .agg xs, .agg ys => if P.prog.stoodInHeld t then none else fieldsEq P (eqT d) xs ys fields.toList
    | some (.array len elem), .agg xs, .agg ys =>
      match sizeD P elem with
      | some n => elemsEq P (eqT d) elem n xs ys (List.range len)
      | none => none
    | _, _, _ => none

def eqDepth : Nat := 40

def bits2 (f : {n : Nat} → BitVec n → BitVec n → BitVec n) (k : IntKind) (a b : Int) : DV :=
  .int k (k.wrap (f (BitVec.ofInt k.bits a) (BitVec.ofInt k.bits b)).toNat)

def intD (op : BinOp) (k : IntKind) (a b : Int) : Option DV :=
  match op with
  | .add => some (.int k (k.wrap (a + b)))
  | .sub => some (.int k (k.wrap (a - b)))
  | .mul => some (.int k (k.wrap (a * b)))
  | .quo => if b = 0 then none else some (.int k (k.wrap (a.tdiv b)))
  | .rem => if b = 0 then none else some (.int k (a.tmod b))
  | .and => some (bits2 (fun x y => x &&& y) k a b)
  | .or => some (bits2 (fun x y => x ||| y) k a b)
  | .xor => some (bits2 (fun x y => x ^^^ y) k a b)
  | .andNot => some (bits2 (fun x y => x &&& ~~~y) k a b)
  | .eql => some (.bool (a == b))
  | .neq => some (.bool (a != b))
  | .lss => some (.bool (decide (a < b)))
  | .leq => some (.bool (decide (a ≤ b)))
  | .gtr => some (.bool (decide (a > b)))
  | .geq => some (.bool (decide (a ≥ b)))
  | _ => none

def strD (op : BinOp) (a b : List UInt8) : Option DV :=
  match op with
  | .add => if a.length + b.length ≤ 4611686018427387904 then some (.str (a ++ b)) else none
  | .eql => some (.bool (a == b))
  | .neq => some (.bool !(a == b))
  | .lss => some (.bool (Op.bytesLess a b))
  | .leq => some (.bool (Op.bytesLess a b || a == b))
  | .gtr => some (.bool !(Op.bytesLess a b || a == b))
  | .geq => some (.bool !(Op.bytesLess a b))
  | _ => none

def DV.scalar : DV → Bool
  | .int _ _ | .str _ | .undef => true
  | _ => false

def binD (op : BinOp) (t : TypeId) (x y : DV) : Option DV :=
  match op, x, y with
  | .shl, .int k a, .int _ b => if 0 ≤ b then some (.int k (k.wrap (a * 2 ^ (min b.toNat k.bits)))) else none
  | .shr, .int k a, .int _ b => if 0 ≤ b then some (.int k (a.fdiv (2 ^ (min b.toNat k.bits)))) else none
  | op, .int k a, .int k' b => if k = k' then intD op k a b else none
  | op, .str a, .str b => strD op a b
  | .eql, x, y => if x.scalar = true then none else (eqT P eqDepth t x y).map .bool
  | .neq, x, y => if x.scalar = true then none else (eqT P eqDepth t x y).map fun b => .bool !b
  | _, _, _ => none

/-- The model's guard on '==': nothing that it does not tell. -/
def eqGuardD (t : TypeId) (xc yc : Bool) (x y : DV) : Bool :=
  match x with
  | .undef => false
  | .nili => match y with
    | .undef => false
    | .nili => xc || yc
    | _ => true
  | .agg _ => match y with
    | .undef => false
    | .agg _ => !P.prog.eqGuardType P.prog.depth t
    | _ => true
  | _ => true

def eqFree (op : BinOp) (t : TypeId) (xc yc : Bool) (x y : DV) : Bool :=
  match op with
  | .eql | .neq => eqGuardD P t xc yc x y
  | _ => true

def unD (op : UnOp) (x : DV) : Option DV :=
  match op, x with
  | .neg, .int k n => some (.int k (k.wrap (0 - n)))
  | .xor, .int k n => some (bits2 (fun x y => x ^^^ y) k (if k.signed then -1 else k.max) n)
  | .not, .bool b => some (.bool !b)
  | _, _ => none

/-- How an operation stands to the store: it does not look at it; it reads one box; it reads it; it writes one box; it lays one box more; it turns it. -/
inductive Eff where
  | pure
  | read (b : Nat)
  | look
  | write (b : Nat)
  | grow
  | eff
  deriving DecidableEq, Inhabited

abbrev Res := Option (DV × Store × Eff)

def pureR (S : Store) : Option DV → Res
  | some d => some (d, S, .pure)
  | none => none
def readR (b : Nat) (S : Store) : Option DV → Res
  | some d => some (d, S, .read b)
  | none => none
def lookR (S : Store) : Option DV → Res
  | some d => some (d, S, .look)
  | none => none
def effR : Option (DV × Store) → Res
  | some (d, S) => some (d, S, .eff)
  | none => none
def growR : Option (DV × Store) → Res
  | some (d, S) => some (d, S, .grow)
  | none => none
def unitR : Option Store → Res
  | some S => some (.tup [], S, .eff)
  | none => none
def writeR : Option (Nat × Store) → Res
  | some (b, S) => some (.tup [], S, .write b)
  | none => none

/-- A slice written out: data, where it refers to nothing of the store. -/
def buildSliceD (S : Store) (t : TypeId) (len : Nat) (parts : List (Nat × DV)) : Res :=
  match P.underlying t with
  | some (.slice elem) =>
    match sizeD P elem, (zeroD P elem).bind DV.cells with
    | some size, some z =>
      if z.length = size ∧ len * size ≤ 16777216 then
        match fillD (fun i => some (i * size, size)) (repCells len z) parts with
        | some cs =>
          if DV.under.underAll 0 cs = true then pureR S ((chunk size len cs).map fun rows => .sl rows true)
          else some (.msl S.length 0 size len (some len), S ++ [.cells cs (.exact elem)], .grow)
        | none => none
      else none
    | _, _ => none
  | _ => none

def byteCell : DV → Option UInt8
  | .int .u8 n => some (UInt8.ofNat n.toNat)
  | _ => none

def byteCells : List DV → Option (List UInt8)
  | [] => some []
  | d :: ds => match byteCell d, byteCells ds with
    | some b, some bs => some (b :: bs)
    | _, _ => none

def ofBytes (s : List UInt8) : List DV := s.map fun b => .int .u8 b.toNat

/-- The cells of the first len elements of a slice (or of a text): how many, and which. -/
def elemsOf (size : Nat) (S : Store) : DV → Option (Nat × List DV)
  | .nils => some (0, [])
  | .str s => if size = 1 then some (s.length, ofBytes s) else none
  | .sl rows _ => if (rows.all fun r => decide (r.length = size)) = true then some (rows.length, rows.flatten) else none
  | .msl b off sz len _ =>
    if sz = size then
      match S[b]? with
      | some (.cells cs _) => (piece cs off (len * sz)).map fun xs => (len, xs)
      | _ => none
    else none
  | _ => none

def convD (src dst : TypeId) (x : DV) (S : Store) : Res :=
  match P.underlying src, P.underlying dst, x with
  | some _, some (.int k), .int _ n => some (.int k (k.wrap n), S, .pure)
  | some _, some .string, .str s => some (.str s, S, .pure)
  | some _, some (.slice e), .str s =>
    match P.underlying e with
    | some (.int .u8) => if s.length ≤ 1099511627776 then some (.msl S.length 0 1 s.length none, S ++ [.cells (ofBytes s) (.grown e)], .grow) else none
    | _ => none
  | some (.slice e), some .string, x =>
    match P.underlying e with
    | some (.int .u8) =>
      match x with
      | .nils => some (.str [], S, .pure)
      | .sl rows _ => if (rows.all fun r => decide (r.length = 1)) = true then pureR S ((byteCells rows.flatten).map .str) else none
      | .msl b _ _ _ _ => match elemsOf 1 S x with
        | some (_, cs) => readR b S ((byteCells cs).map .str)
        | none => none
      | _ => none
    | _ => none
  | _, _, _ => none

def lenD (t : TypeId) (x : DV) (S : Store) : Res :=
  match P.underlying t, x with
  | some .string, .str s => some (.int .i64 s.length, S, .pure)
  | some (.array _ _), .undef => none
  | some (.array n _), _ => some (.int .i64 n, S, .pure)
  | some (.slice _), .nils => some (.int .i64 0, S, .pure)
  | some (.slice _), .sl rows _ => some (.int .i64 rows.length, S, .pure)
  | some (.slice _), .msl _ _ _ len _ => some (.int .i64 len, S, .pure)
  | some (.map _ _), .nilm => some (.int .i64 0, S, .pure)
  | some (.map _ _), .mref b => match S[b]? with
    | some (.map es _) => some (.int .i64 es.length, S, .read b)
    | _ => none
  | _, _ => none

/-- What append lays. -/
def rowKind (elem : TypeId) : Kind := match P.underlying elem with
  | some (.int .u8) => .text elem
  | _ => .grown elem

def capOk (need bytes : Nat) : Bool := decide (need ≤ 4294967296) && decide (bytes ≤ 4096)

def appendD (ro lim : Nat) (argTypes : Array TypeId) (s x : DV) (S : Store) : Res :=
  match (argTypes[0]?).bind P.underlying, (argTypes[1]?).bind P.underlying with
  | some (.slice _), some (.int _) => none
  | some (.slice elem), some _ =>
    match sizeD P elem, bytesD P elem, (zeroD P elem).bind DV.cells with
    | some size, some bytes, some z =>
      if 0 < size ∧ z.length = size then
      match elemsOf size S x with
      | some (n, news) =>
        match s with
        | .nils =>
          if n = 0 then some (.nils, S, .look) else
          if capOk n bytes = true then some (.msl S.length 0 size n none, S ++ [.cells news (rowKind P elem)], .eff) else none
        | .sl rows ex =>
          if n = 0 then some (.sl rows ex, S, .look) else
          match elemsOf size S s with
          | some (m, old) =>
            if ex = true ∧ capOk (m + n) bytes = true then some (.msl S.length 0 size (m + n) none, S ++ [.cells (old ++ news) (rowKind P elem)], .eff) else none
          | none => none
        | .msl b off sz len cap =>
          if n = 0 then some (.msl b off sz len cap, S, .look) else
          match S[b]? with
          | some (.cells cs k) =>
            match cap with
            | some c =>
              if len + n ≤ c then
                if sz = size ∧ off + (len + n) * sz ≤ cs.length ∧ k.open = true ∧ news.all DV.atom = true ∧ escOk ro lim b (.agg news) = true then
                  some (.msl b off sz (len + n) (some c), S.set b (.cells (splice cs (off + len * sz) news) k), .eff) else none
              else
                match elemsOf size S s with
                | some (_, old) => if capOk (len + n) bytes = true then some (.msl S.length 0 size (len + n) none, S ++ [.cells (old ++ news) (rowKind P elem)], .eff) else none
                | none => none
            | none =>
              if sz = size ∧ off = 0 ∧ len * sz = cs.length ∧ (k = .grown elem ∨ k = .text elem) ∧ news.all DV.atom = true ∧ capOk (len + n) bytes = true ∧ ro ≤ b then
                some (.msl S.length 0 size (len + n) none, S.set b .dead ++ [.cells (cs ++ news) k], .eff) else none
          | _ => none
        | _ => none
      | none => none
      else none
    | _, _, _ => none
  | _, _ => none

def copyD (ro lim : Nat) (argTypes : Array TypeId) (dst src : DV) (S : Store) : Res :=
  match (argTypes[0]?).bind P.underlying with
  | some (.slice elem) =>
    match sizeD P elem with
    | some size =>
      match elemsOf size S src, dst with
      | some (n, news), .msl b off sz len _ =>
        match S[b]? with
        | some (.cells cs k) =>
          let m := min n len
          if m = 0 then some (.int .i64 0, S, .look) else
          let xs := news.take (m * size)
          if sz = size ∧ off + len * sz ≤ cs.length ∧ k.open = true ∧ xs.all DV.atom = true ∧ escOk ro lim b (.agg xs) = true ∧ xs.length = m * size then
            some (.int .i64 m, S.set b (.cells (splice cs off xs) k), .eff) else none
        | _ => none
      | _, _ => none
    | none => none
  | _ => none

/-- The key of a map may be asked for so: a number, a text, a bool; or an array of numbers. -/
def keyD (t : TypeId) (k : DV) : Bool :=
  match P.underlying t, k with
  | some (.int _), .int _ _ => true
  | some .string, .str _ => true
  | some .bool, .bool _ => true
  | some (.array len elem), .agg cs =>
    match P.underlying elem, sizeD P elem with
    | some (.int _), some 1 => decide (cs.length = len) && cs.all fun | .int _ _ => true | _ => false
    | _, _ => false
  | _, _ => false

/-- Are two keys the same, cell by cell? -/
def keySame : DV → DV → Bool
  | .int k a, .int k' b => k == k' && a == b
  | .str a, .str b => a == b
  | .bool a, .bool b => a == b
  | .agg xs, .agg ys => cellsSame xs ys
  | _, _ => false
where
  cellsSame : List DV → List DV → Bool
    | [], [] => true
    | .int k a :: xs, .int k' b :: ys => k == k' && a == b && cellsSame xs ys
    | _, _ => false

structure Found where
  at_ : Nat
  key : DV
  val : DV
  born : Nat

def findD (t : TypeId) (key : DV) : List (DV × DV × Nat) → Nat → Option (Option Found)
  | [], _ => some none
  | (k, v, born) :: es, i =>
    match eqT P eqDepth t key k with
    | some true => some (some ⟨i, k, v, born⟩)
    | some false => findD t key es (i + 1)
    | none => none

def lookupD (t : TypeId) (m key : DV) (ok : Bool) (S : Store) : Res :=
  match P.underlying t with
  | some (.map kt et) =>
    if keyD P kt key = true then
      match m with
      | .nilm => pureR S ((zeroD P et).map fun z => if ok then .tup [z, .bool false] else z)
      | .mref b => match S[b]? with
        | some (.map es _) => match findD P kt key es 0 with
          | some (some f) => some (if ok then .tup [f.val, .bool true] else f.val, S, .read b)
          | some none => readR b S ((zeroD P et).map fun z => if ok then .tup [z, .bool false] else z)
          | none => none
        | _ => none
      | _ => none
    else none
  | _ => none

def updateD (ro lim : Nat) (t : TypeId) (m key val : DV) (S : Store) : Res :=
  match P.underlying t, m with
  | some (.map kt _), .mref b =>
    if keyD P kt key = true ∧ escOk ro lim b val = true then
      match S[b]? with
      | some (.map es clock) => match findD P kt key es 0 with
        | some (some f) => if keySame f.key key = true then unitR (some (S.set b (.map (es.set f.at_ (key, val, f.born)) clock))) else none
        | some none => unitR (some (S.set b (.map (es ++ [(key, val, clock)]) (clock + 1))))
        | none => none
      | _ => none
    else none
  | _, _ => none

def entryD (ro : Nat) (t : TypeId) (m key : DV) (S : Store) : Res :=
  match P.underlying t, m with
  | some (.map kt et), .mref b =>
    if keyD P kt key = true ∧ ro ≤ b then
      match S[b]? with
      | some (.map es clock) => match findD P kt key es 0 with
        | some (some f) => if keySame f.key key = true then effR (some (.tup [f.val, .int .i64 f.born], S.set b (.map (es.set f.at_ (key, f.val, f.born)) clock))) else none
        | some none => effR ((zeroD P et).map fun z => (.tup [z, .int .i64 clock], S.set b (.map (es ++ [(key, z, clock)]) (clock + 1))))
        | none => none
      | _ => none
    else none
  | _, _ => none

def bornAt (n : Int) : List (DV × DV × Nat) → Nat → Option (Nat × DV × Nat)
  | [], _ => none
  | (k, _, born) :: es, i => if ((born : Int) == n) = true then some (i, k, born) else bornAt n es (i + 1)

def entryStoreD (ro lim : Nat) (m stamp val : DV) (S : Store) : Res :=
  match m, stamp with
  | .mref b, .int _ n =>
    if escOk ro lim b val = true then
      match S[b]? with
      | some (.map es clock) => match bornAt n es 0 with
        | some (i, k, born) => unitR (some (S.set b (.map (es.set i (k, val, born)) clock)))
        | none => none
      | _ => none
    else none
  | _, _ => none

def deleteD (ro : Nat) (t : TypeId) (m key : DV) (S : Store) : Res :=
  match P.underlying t, m with
  | some (.map kt _), .mref b =>
    if keyD P kt key = true ∧ ro ≤ b then
      match S[b]? with
      | some (.map es clock) => match findD P kt key es 0 with
        | some (some f) => effR (some (.tup [], S.set b (.map (es.eraseIdx f.at_) clock)))
        | some none => effR (some (.tup [], S))
        | none => none
      | _ => none
    else none
  | _, _ => none

def clearD (ro : Nat) (t : TypeId) (m : DV) (S : Store) : Res :=
  match P.underlying t, m with
  | some (.map _ _), .mref b =>
    if ro ≤ b then
      match S[b]? with
      | some (.map _ clock) => effR (some (.tup [], S.set b (.map [] clock)))
      | _ => none
    else none
  | _, _ => none

def assertD (x : DV) (asserted : TypeId) (ok : Bool) : Option DV :=
  match P.underlying asserted with
  | some (.interface _) => none
  | some _ =>
    match x with
    | .iface t v => if t = asserted then some (if ok then .tup [v, .bool true] else v)
      else if ok then (zeroD P asserted).map fun z => .tup [z, .bool false] else none
    | .nili => if ok then (zeroD P asserted).map fun z => .tup [z, .bool false] else none
    | _ => none
  | none => none

def ifaceD (t : TypeId) (x : DV) : Option DV :=
  match P.underlying t with
  | some (.interface _) => none
  | some _ => some (.iface t x)
  | none => none

def nilD : DV → Option DV
  | .undef | .nilp | .nili | .nilf | .fn _ _ _ => none
  | x => some x

def min2D : DV → DV → Option DV
  | .int k x, .int _ y => some (.int k (if y < x then y else x))
  | _, _ => none
def max2D : DV → DV → Option DV
  | .int k x, .int _ y => some (.int k (if y > x then y else x))
  | _, _ => none

def foldD (f : DV → DV → Option DV) : DV → List DV → Option DV
  | x, [] => some x
  | x, y :: ys => match f x y with
    | some z => foldD f z ys
    | none => none

/-- The bytes at the head of a row, told as a string. -/
def unstrD (argTypes : List TypeId) (p n : DV) (S : Store) : Res :=
  match argTypes, p, n with
  | [_, _], .nilp, .int .i64 n => if n = 0 then some (.str [], S, .pure) else none
  | [pt, _], .ref b off, .int .i64 n =>
    if n = 0 then some (.str [], S, .pure) else
    match P.underlying pt, S[b]? with
    | some (.pointer e), some (.cells cs (.text t)) =>
      if 0 < n ∧ n ≤ 9223372036854775807 ∧ n.toNat ≤ cs.length ∧ off = 0 ∧ t = e ∧ sizeD P e = some 1 then
        readR b S ((byteCells (cs.take n.toNat)).map .str)
      else none
    | _, _ => none
  | _, _, _ => none

def dataD (x : DV) (S : Store) : Res :=
  match x with
  | .nils => some (.nilp, S, .pure)
  | .msl b off _ len _ => if len = 0 then none else some (.ref b off, S, .pure)
  | _ => none

def capD (t : TypeId) (x : DV) : Option DV :=
  match P.underlying t, x with
  | some (.slice _), .nils => some (.int .i64 0)
  | some (.slice _), .sl rows true => some (.int .i64 rows.length)
  | some (.slice _), .msl _ _ _ _ (some c) => some (.int .i64 c)
  | _, _ => none

def builtinD (ro lim : Nat) (b : Builtin) (argTypes : Array TypeId) (args : List DV) (S : Store) : Res :=
  match b, args with
  | .len, [x] => match argTypes[0]? with
    | some t => lenD P t x S
    | none => none
  | .append, [s, x] => appendD P ro lim argTypes s x S
  | .copy, [d, s] => copyD P ro lim argTypes d s S
  | .delete, [m, k] => match argTypes[0]? with
    | some t => deleteD P ro t m k S
    | none => none
  | .clear, [m] => match argTypes[0]? with
    | some t => clearD P ro t m S
    | none => none
  | .min, x :: rest => pureR S (foldD min2D x rest)
  | .max, x :: rest => pureR S (foldD max2D x rest)
  | .unsafeSliceData, [x] => dataD x S
  | .cap, [x] => match argTypes[0]? with
    | some t => pureR S (capD P t x)
    | none => none
  | .unsafeString, [p, n] => unstrD P argTypes.toList p n S
  | _, _ => none

/-- What an operand is. -/
def opdD (G : Nat → Option (List DV)) (sl : List DV) : Operand → DV
  | .tmp t => sl.getD t .undef
  | .const v => (zdv v).getD .undef
  | .global g => match G g with
    | some cs => .look cs
    | none => .undef
  | .func f => .fn (.func f) [] []

def constD : Operand → Bool
  | .const _ => true
  | _ => false

abbrev CallD := FuncId → List DV → Store → Res

/-- The function that a value names, and all its arguments. -/
def targetD (f : DV) (args : List DV) : Option (FuncId × List DV) :=
  match f with
  | .fn (.func g) first captured => some (g, first ++ (args ++ captured))
  | _ => none

def loadR (agg : Bool) (n : Nat) (S : Store) (a : DV) : Res :=
  match a with
  | .ref b _ => readR b S (loadD agg n S a)
  | _ => pureR S (loadD agg n S a)

def opD (G : Nat → Option (List DV)) (call : CallD) (ro lim : Nat) (sl : List DV) (op : Op) (S : Store) : Res :=
  let ρ := opdD G sl
  match op with
  | .move x | .assign x => pureR S (some (ρ x))
  | .pick c a b => match ρ c with
    | .bool t => pureR S (some (if t then ρ a else ρ b))
    | _ => none
  | .alloc elem => match zeroD P elem with
    | some z => growR (boxD S elem z)
    | none => none
  | .box t x => growR (boxD S t (ρ x))
  | .build t parts => pureR S (buildD P t (parts.toList.map fun p => (p.1, ρ p.2)))
  | .buildSlice t len parts => (buildSliceD P S t len (parts.toList.map fun p => (p.1, ρ p.2)))
  | .load t a => match aggD P t, sizeD P t with
    | some agg, some n => loadR agg n S (ρ a)
    | _, _ => none
  | .store t a x => match sizeD P t with
    | some n => writeR (storeD ro lim n S (ρ a) (ρ x))
    | none => none
  | .nilCheck x => pureR S (nilD (ρ x))
  | .binOp op t x y _ => if eqFree P op t (constD x) (constD y) (ρ x) (ρ y) = true then pureR S (binD P op t (ρ x) (ρ y)) else none
  | .unOp op _ x => pureR S (unD op (ρ x))
  | .convert src dst x => convD P src dst (ρ x) S
  | .makeInterface t x => pureR S (ifaceD P t (ρ x))
  | .makeFunc fn first captured => pureR S (some (.fn fn (first.toList.map ρ) (captured.toList.map ρ)))
  | .makeMap t r => match r.map ρ with
    | none => growR (some (.mref S.length, S ++ [.map [] 0]))
    | some (.int _ _) => match P.underlying t with
      | some (.map _ _) => growR (some (.mref S.length, S ++ [.map [] 0]))
      | _ => none
    | some _ => none
  | .makeSlice t l c => growR (makeSliceD P S t (ρ l) (ρ c))
  | .slice t x lo hi mx => pureR S (sliceD P t (ρ x) (lo.map ρ) (hi.map ρ) (mx.map ρ))
  | .fieldAddr t x f => pureR S (fieldAddrD P t f (ρ x))
  | .field t x f => pureR S (fieldD P t f (ρ x))
  | .indexAddr t x i => pureR S (indexAddrD P t (ρ x) (ρ i))
  | .index t x i => pureR S (indexD P t (ρ x) (ρ i))
  | .lookup t x i ok => lookupD P t (ρ x) (ρ i) ok S
  | .mapUpdate t m k x => updateD P ro lim t (ρ m) (ρ k) (ρ x) S
  | .mapEntry t m k => entryD P ro t (ρ m) (ρ k) S
  | .entryStore _ m s x => entryStoreD ro lim (ρ m) (ρ s) (ρ x) S
  | .typeAssert x _ asserted ok => pureR S (assertD P (ρ x) asserted ok)
  | .extract t ix => match ρ t with
    | .tup vs => pureR S (vs[ix]?)
    | _ => none
  | .call c => match c.callee with
    | .builtin b => builtinD P ro lim b c.argTypes (c.args.toList.map ρ) S
    | .value f => match targetD (ρ f) (c.args.toList.map ρ) with
      | some (g, args) => call g args S
      | none => none
    | .invoke _ _ => none
  | _ => none

end ops

/-- A frame: its slots, and the calls that are put off. -/
structure Fr where
  sl : List DV
  df : List (FuncId × List DV)

def Fr.put (fr : Fr) (dst : Option Nat) (d : DV) : Fr :=
  match dst with
  | some t => { fr with sl := fr.sl.set t d }
  | none => fr

/-- Is an operation carried out? none: it can't be told. -/
def wantD (ops : Array Oper) (sl : List DV) (o : Oper) : Option Bool :=
  match o.guard with
  | none => some true
  | some (j, want) =>
    match ((ops[j]?).bind (·.dst)) with
    | none => some false
    | some t => match sl[t]? with
      | some (.bool b) => some (b == want)
      | some .undef => none
      | some _ => some false
      | none => none

inductive Ex where
  | normal
  | exit (id : Nat)
  | ret
  deriving DecidableEq, Inhabited

section code
variable (P : Types) (G : Nat → Option (List DV)) (call : CallD) (ro lim : Nat)

/-- One operation: its value, the store, the kind, and what it puts off. -/
def evalD (ops : Array Oper) (o : Oper) (sl : List DV) (S : Store) : Option (DV × Store × Eff × List (FuncId × List DV)) :=
  match wantD ops sl o with
  | none => none
  | some false => some (.tup [], S, .pure, [])
  | some true =>
    match o.op with
    | .defer c => match c.callee with
      | .value f => match targetD (opdD G sl f) (c.args.toList.map (opdD G sl)) with
        | some p => some (.tup [], S, .eff, [p])
        | none => none
      | _ => none
    | op => match opD P G call ro lim sl op S with
      | some (d, S', e) => some (d, S', e, [])
      | none => none

/-- One operation: what becomes of the frame and the store. -/
def stepD (ops : Array Oper) (o : Oper) (fr : Fr) (S : Store) : Option (Fr × Store × Eff) :=
  match evalD P G call ro lim ops o fr.sl S with
  | some (d, S', e, df) => some (({ fr with df := df ++ fr.df } : Fr).put o.dst d, S', e)
  | none => none

def opsD (ops : Array Oper) : List Oper → Fr → Store → Option (Fr × Store)
  | [], fr, S => some (fr, S)
  | o :: rest, fr, S => match stepD P G call ro lim ops o fr S with
    | some (fr', S', _) => opsD ops rest fr' S'
    | none => none

/-- May two operations, of these kinds, be carried out in either order? -/
def Eff.free : Eff → Eff → Bool
  | .pure, _ | _, .pure => true
  | .read _, .read _ | .read _, .look | .look, .read _ | .look, .look => true
  | .read b, .write c | .write c, .read b => b != c
  | _, _ => false

/-- May an operation of that kind be carried out here, those before it being what they were? -/
def effOk (b : Nat) (e : Eff) : List (Nat × Eff) → Bool
  | [] => true
  | (i, k) :: l => (e.free k || b.testBit i) && effOk b e l

/-- A region that draws its order, in the order of the text; beside it: what is done in which way. -/
def drawD (ops : Array Oper) (b : List Nat) : Nat → List Oper → List (Nat × Eff) → Fr → Store → Option (Fr × Store)
  | _, [], _, fr, S => some (fr, S)
  | i, o :: rest, l, fr, S => match stepD P G call ro lim ops o fr S with
    | some (fr', S', e) => if effOk (b.getD i 0) e l = true then drawD ops b (i + 1) rest ((i, e) :: l) fr' S' else none
    | none => none

/-- The slots that an operation names. -/
def looksD (ops : Array Oper) (o : Oper) : List Nat :=
  (o.op.operands.toList.filterMap fun | .tmp t => some t | _ => none) ++
  (match o.guard with
   | some (g, _) => ((ops[g]?).bind (·.dst)).toList
   | none => [])

/-- What lies ahead of an operation, by its edges, a bit each. -/
def maskD (acc : List Nat) : List Edge → Nat
  | [] => 0
  | e :: es => if Region.binds .any e then (2 ^ e.on ||| acc.getD e.on 0) ||| maskD acc es else maskD acc es

def befs : List Oper → List Nat → List Nat
  | [], acc => acc
  | o :: l, acc => befs l (acc ++ [maskD acc o.after.toList])

/-- Each edge leads back; each slot is written once in a region, and whoever names it lies in order with its writer. -/
def regOk (ops : Array Oper) (b : List Nat) : Bool :=
  (List.range ops.size).all fun i => match ops[i]? with
    | none => true
    | some o =>
      (o.after.toList.all fun e => !Region.binds .any e || decide (e.on < i)) &&
      match o.dst with
      | none => true
      | some t => (List.range ops.size).all fun j => j == i || match ops[j]? with
        | none => true
        | some o' => o'.dst != some t && (!(looksD ops o').contains t || (b.getD (max i j) 0).testBit (min i j))

def regionD (ops : Array Oper) (draw : Bool) (fr : Fr) (S : Store) : Option (Fr × Store) :=
  if draw then
    if regOk ops (befs ops.toList []) = true then drawD P G call ro lim ops (befs ops.toList []) 0 ops.toList [] fr S else none
  else opsD P G call ro lim ops ops.toList fr S

/-- A loop's rounds, no more than so many. -/
def iterD {R : Type} : Nat → ((Fr → Store → Option R) → Fr → Store → Option R) → Fr → Store → Option R
  | 0, _ => fun _ _ => none
  | n + 1, g => g (iterD n g)

end code

/-- The slots that code names, and those that it writes. -/
def readsC : Code → List Nat
  | .region _ ops _ => ops.toList.flatMap (looksD ops)
  | .seq a b => readsC a ++ readsC b
  | .cond c a b => (match c with | .tmp t => [t] | _ => []) ++ (readsC a ++ readsC b)
  | .block _ c | .loop c | .scope c => readsC c
  | .rangeFunc f ps a b => (match f with | .tmp t => [t] | _ => []) ++ (ps.toList ++ (readsC a ++ readsC b))
  | _ => []

def writesC : Code → List Nat
  | .region _ ops _ => ops.toList.filterMap (·.dst)
  | .seq a b => writesC a ++ writesC b
  | .cond _ a b => writesC a ++ writesC b
  | .block _ c | .loop c | .scope c => writesC c
  | .rangeFunc _ ps a b => ps.toList ++ (writesC a ++ writesC b)
  | _ => []

inductive Use where
  | none | write | read | maybe
  deriving DecidableEq, Inhabited

def Use.then : Use → Use → Use
  | .none, u => u
  | .maybe, .none => .maybe
  | .maybe, u => u
  | u, _ => u

def Use.or : Use → Use → Use
  | .read, _ | _, .read => .read
  | .write, .write => .write
  | .none, .none => .none
  | _, _ => .maybe

def useOps (ops : Array Oper) (t : Nat) : List Oper → Use
  | [] => .none
  | o :: rest => if (looksD ops o).contains t then .read else if o.dst == some t then (if o.guard.isNone then .write else Use.then .maybe (useOps ops t rest)) else useOps ops t rest

def useC (t : Nat) : Code → Use
  | .region _ ops _ => useOps ops t ops.toList
  | .seq a b => (useC t a).then (useC t b)
  | .cond c a b => if (match c with | .tmp u => u == t | _ => false) then .read else (useC t a).or (useC t b)
  | .block _ c | .loop c | .scope c => useC t c
  | .rangeFunc _ _ a b => if (readsC a ++ readsC b).contains t then .read else .none
  | _ => .none

/-- The slots that are forgotten at the head of a loop's round: those that the round writes ahead of reading them, and that nothing outside reads. -/
def deadC (body : Code) (out : List Nat) : List Nat :=
  (writesC body).eraseDups.filter fun t => useC t body != .read && !out.contains t

def forget (l : List Nat) (fr : Fr) : Fr := { fr with sl := l.foldl (fun s t => s.set t .undef) fr.sl }

section eval
variable (P : Types) (G : Nat → Option (List DV)) (call : CallD) (ro lim fuel : Nat)

def codeD {R : Type} : Code → List Nat → Fr → Store → (Ex → Fr → Store → Option R) → Option R
  | .skip, _, fr, S, K => K .normal fr S
  | .label _, _, fr, S, K => K .normal fr S
  | .ret, _, fr, S, K => K .ret fr S
  | .exit id, _, fr, S, K => K (.exit id) fr S
  | .region _ ops draw, _, fr, S, K => match regionD P G call ro lim ops draw fr S with
    | some (fr', S') => K .normal fr' S'
    | none => none
  | .seq a b, out, fr, S, K => codeD a (readsC b ++ out) fr S fun e fr' S' => match e with
    | .normal => codeD b (readsC a ++ out) fr' S' K
    | e => K e fr' S'
  | .cond c a b, out, fr, S, K => match opdD G fr.sl c with
    | .bool t => if t = true then codeD a (readsC b ++ out) fr S K else codeD b (readsC a ++ out) fr S K
    | _ => none
  | .block id c, out, fr, S, K => codeD c out fr S fun e fr' S' => match e with
    | .exit id' => if id' = id then K .normal fr' S' else K (.exit id') fr' S'
    | e => K e fr' S'
  | .loop c, out, fr, S, K =>
    iterD fuel (fun again fr S => codeD c out fr S fun e fr' S' => match e with
      | .normal => again (forget (deadC c out) fr') S'
      | e => K e fr' S') fr S
  | _, _, _, _, _ => none

end eval

/-- What a function's result variables hold. -/
def resultsD (P : Types) (rs : List ResultVar) (sl : List DV) (S : Store) : Option (List DV) :=
  match rs with
  | [] => some []
  | .tmp t :: rest => (resultsD P rest sl S).map (sl.getD t .undef :: ·)
  | .cell a t :: rest =>
    match aggD P t, sizeD P t with
    | some agg, some n => match loadD agg n S (sl.getD a .undef), resultsD P rest sl S with
      | some d, some ds => some (d :: ds)
      | _, _ => none
    | _, _ => none

def resultD (ds : List DV) : DV := match ds with
  | [d] => d
  | ds => .tup ds

/-- The calls that were put off, the last one first. -/
def deferredD (call : CallD) : List (FuncId × List DV) → Store → Option Store
  | [], S => some S
  | (f, args) :: rest, S => match call f args S with
    | some (_, S', _) => deferredD call rest S'
    | none => none

/-- The slots that are read behind a body. -/
def outsOf (fn : Func) : List Nat := fn.results.toList.map fun | .tmp t => t | .cell a _ => a

def bodyD (P : Types) (G : Nat → Option (List DV)) (call dcall : CallD) (dfr : Bool) (ro lim fuel : Nat) (fn : Func) (args : List DV) (S : Store) : Option (DV × Store) :=
  match fn.body with
  | none => none
  | some c => codeD P G call ro lim fuel c (outsOf fn) { sl := args ++ List.replicate (fn.ntmps - args.length) (.tup []), df := [] } S fun e fr S' =>
    match e with
    | .exit _ => none
    | _ =>
      if dfr = true ∧ fr.df.isEmpty = false then none else
      match deferredD dcall fr.df S' with
      | none => none
      | some S'' => (resultsD P fn.results.toList fr.sl S'').map fun ds => (resultD ds, S'')

def mapO (f : DV → Option DV) : List DV → Option (List DV)
  | [] => some []
  | d :: ds => match f d, mapO f ds with
    | some d', some ds' => some (d' :: ds')
    | _, _ => none

/-- What is laid from n on becomes data: slices of it as lists. -/
def sealD (n : Nat) (S : Store) : Nat → DV → Option DV
  | 0, _ => none
  | k + 1, d =>
    match d with
    | .agg cs => (mapO (sealD n S k) cs).map .agg
    | .tup vs => (mapO (sealD n S k) vs).map .tup
    | .iface t v => (sealD n S k v).map (.iface t)
    | .fn f a b => match mapO (sealD n S k) a, mapO (sealD n S k) b with
      | some a', some b' => some (.fn f a' b')
      | _, _ => none
    | .msl b off sz len cap =>
      if b < n then some (.msl b off sz len cap) else
      match S[b]? with
      | some (.cells cs _) => match piece cs off (len * sz) with
        | some xs => match mapO (sealD n S k) xs with
          | some ys => if DV.under.underAll 0 ys = true then (chunk sz len ys).map fun rows => .sl rows (match cap with | some c => decide (c = len) | none => false) else none
          | none => none
        | none => none
      | _ => none
    | .ref b off => if b < n then some (.ref b off) else none
    | .mref b => if b < n then some (.mref b) else none
    | .iter b => if b < n then some (.iter b) else none
    | d => some d

def sealDepth : Nat := 8

structure Env where
  P : Types
  G : Nat → Option (List DV)
  mode : FuncId → Mode
  ext : FuncId → Option (Nat → Nat → CallD)

/-- A call, by its function's mode ('dfr': one that was put off). -/
def callD (E : Env) : Nat → Bool → Nat → Nat → CallD
  | 0, _, _, _, _, _, _ => none
  | k + 1, dfr, ro, lim, f, args, S =>
    match (if dfr then none else E.ext f) with
    | some g => g ro lim f args S
    | none =>
      match E.P.func f with
      | none => none
      | some fn =>
        match E.mode f with
        | .pure =>
          if DV.under.underAll 0 args = true then
            match bodyD E.P E.G (callD E k false 0 0) (callD E k true 0 0) dfr 0 0 k fn args [] with
            | some (d, S') => match sealD 0 S' sealDepth d with
              | some d' => some (d', S, .pure)
              | none => none
            | none => none
          else none
        | .read =>
          match bodyD E.P E.G (callD E k false S.length S.length) (callD E k true S.length S.length) dfr S.length S.length k fn args S with
          | some (d, S') => match sealD S.length S' sealDepth d with
            | some d' => some (d', S, .look)
            | none => none
          | none => none
        | .trunc =>
          match bodyD E.P E.G (callD E k false ro S.length) (callD E k true ro S.length) dfr ro S.length k fn args S with
          | some (d, S') => match sealD S.length S' sealDepth d with
            | some d' => some (d', S'.take S.length, .eff)
            | none => none
          | none => none
        | .keep =>
          match bodyD E.P E.G (callD E k false ro lim) (callD E k true ro lim) dfr ro lim k fn args S with
          | some (d, S') => some (d, S', .eff)
          | none => none
end Go.Dv
