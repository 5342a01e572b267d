/- Rules of the evaluator's primitives on typed values. -/
import Derived.Test.YtjojemebfojpnaaGreatDoorBhB
set_option linter.unusedVariables false
namespace Go.Dv
open Go

section
variable {P : Types} {R : Type}

theorem iterD_succ (n : Nat) (g : (Fr → Store → Option R) → Fr → Store → Option R) : iterD (n + 1) g = g (iterD n g) := id rfl
theorem cx_call (E : Env) (k ro lim : Nat) : (cx E k ro lim).call = callD E k false ro lim := id rfl
theorem cx_dcall (E : Env) (k ro lim : Nat) : (cx E k ro lim).dcall = callD E k true ro lim := id rfl
theorem cx_ro (E : Env) (k ro lim : Nat) : (cx E k ro lim).ro = ro := id rfl
theorem cx_lim (E : Env) (k ro lim : Nat) : (cx E k ro lim).lim = lim := id rfl
theorem cx_k (E : Env) (k ro lim : Nat) : (cx E k ro lim).k = k := id rfl
theorem guardO_true (S : Store) (r : Res) : guardO S (.bool true) true r = r := id rfl
theorem guardO_false (S : Store) (r : Res) : guardO S (.bool false) true r = some (.tup [], S, .pure) := id rfl
theorem guardO_true' (S : Store) (r : Res) : guardO S (.bool true) false r = some (.tup [], S, .pure) := id rfl
theorem guardO_false' (S : Store) (r : Res) : guardO S (.bool false) false r = r := id rfl
theorem guardO_tup (S : Store) (l : List DV) (b : Bool) (r : Res) : guardO S (.tup l) b r = some (.tup [], S, .pure) := id rfl
theorem condB_true (a b : Option R) : condB (.bool true) a b = a := id rfl
theorem condB_false (a b : Option R) : condB (.bool false) a b = b := id rfl
theorem condB_bool (t : Bool) (a b : Option R) : condB (.bool t) a b = if t = true then a else b := id rfl
theorem pickD_bool (t : Bool) (a b : DV) : pickD (.bool t) a b = some (if t = true then a else b) := id rfl
theorem extrD_tup (l : List DV) (i : Nat) : extrD (.tup l) i = l[i]? := id rfl
theorem targetD_fn (g : FuncId) (a b args : List DV) : targetD (.fn (.func g) a b) args = some (g, a ++ (args ++ b)) := id rfl

theorem binD_add (t : TypeId) (k : IntKind) (a b : Int) : binD P .add t (.int k a) (.int k b) = some (.int k (k.wrap (a + b))) := by simp [binD, intD]
theorem binD_sub (t : TypeId) (k : IntKind) (a b : Int) : binD P .sub t (.int k a) (.int k b) = some (.int k (k.wrap (a - b))) := by simp [binD, intD]
theorem binD_mul (t : TypeId) (k : IntKind) (a b : Int) : binD P .mul t (.int k a) (.int k b) = some (.int k (k.wrap (a * b))) := by simp [binD, intD]
theorem binD_quo (t : TypeId) (k : IntKind) (a b : Int) : binD P .quo t (.int k a) (.int k b) = if b = 0 then none else some (.int k (k.wrap (a.tdiv b))) := by simp [binD, intD]
theorem binD_rem (t : TypeId) (k : IntKind) (a b : Int) : binD P .rem t (.int k a) (.int k b) = if b = 0 then none else some (.int k (a.tmod b)) := by simp [binD, intD]
theorem binD_lss (t : TypeId) (k : IntKind) (a b : Int) : binD P .lss t (.int k a) (.int k b) = some (.bool (decide (a < b))) := by simp [binD, intD]
theorem binD_leq (t : TypeId) (k : IntKind) (a b : Int) : binD P .leq t (.int k a) (.int k b) = some (.bool (decide (a ≤ b))) := by simp [binD, intD]
theorem binD_gtr (t : TypeId) (k : IntKind) (a b : Int) : binD P .gtr t (.int k a) (.int k b) = some (.bool (decide (a > b))) := by simp [binD, intD]
theorem binD_geq (t : TypeId) (k : IntKind) (a b : Int) : binD P .geq t (.int k a) (.int k b) = some (.bool (decide (a ≥ b))) := by simp [binD, intD]
theorem binD_and (t : TypeId) (k : IntKind) (a b : Int) : binD P .and t (.int k a) (.int k b) = some (bits2 (fun x y => x &&& y) k a b) := by simp [binD, intD]
theorem binD_or (t : TypeId) (k : IntKind) (a b : Int) : binD P .or t (.int k a) (.int k b) = some (bits2 (fun x y => x ||| y) k a b) := by simp [binD, intD]
theorem binD_xor (t : TypeId) (k : IntKind) (a b : Int) : binD P .xor t (.int k a) (.int k b) = some (bits2 (fun x y => x ^^^ y) k a b) := by simp [binD, intD]
theorem binD_shl (t : TypeId) (k k' : IntKind) (a b : Int) : binD P .shl t (.int k a) (.int k' b) = if 0 ≤ b then some (.int k (k.wrap (a * 2 ^ (min b.toNat k.bits)))) else none := id rfl
theorem binD_shr (t : TypeId) (k k' : IntKind) (a b : Int) : binD P .shr t (.int k a) (.int k' b) = if 0 ≤ b then some (.int k (a.fdiv (2 ^ (min b.toNat k.bits)))) else none := id rfl
theorem binD_cat (t : TypeId) (a b : List UInt8) : binD P .add t (.str a) (.str b) = if a.length + b.length ≤ 4611686018427387904 then some (.str (a ++ b)) else none := id rfl
theorem eqB_int (t : TypeId) (x y : Bool) (k : IntKind) (a b : Int) : eqB P .eql t x y (.int k a) (.int k b) = some (.bool (a == b)) := by simp [eqB, eqGuardD, binD, intD]
theorem neB_int (t : TypeId) (x y : Bool) (k : IntKind) (a b : Int) : eqB P .neq t x y (.int k a) (.int k b) = some (.bool (a != b)) := by simp [eqB, eqGuardD, binD, intD]
theorem eqB_str (t : TypeId) (x y : Bool) (a b : List UInt8) : eqB P .eql t x y (.str a) (.str b) = some (.bool (a == b)) := by simp [eqB, eqGuardD, binD, strD]
theorem neB_str (t : TypeId) (x y : Bool) (a b : List UInt8) : eqB P .neq t x y (.str a) (.str b) = some (.bool (!(a == b))) := by simp [eqB, eqGuardD, binD, strD]

theorem wrap_u32 {n : Nat} (h : n < 4294967296) : IntKind.u32.wrap (n : Int) = n := by simp [IntKind.wrap, IntKind.signed, IntKind.bits]; omega
theorem wrap_u8 {n : Nat} (h : n < 256) : IntKind.u8.wrap (n : Int) = n := by simp [IntKind.wrap, IntKind.signed, IntKind.bits]; omega
theorem wrap_i64 {n : Int} (h1 : -9223372036854775808 ≤ n) (h2 : n ≤ 9223372036854775807) : IntKind.i64.wrap n = n := by
  simp [IntKind.wrap, IntKind.signed, IntKind.bits]
  split <;> omega
theorem xor_u32 {a b : Nat} (ha : a < 4294967296) (hb : b < 4294967296) : bits2 (fun x y => x ^^^ y) .u32 a b = .int .u32 ((a ^^^ b : Nat) : Int) := by
  have p : (4294967296 : Nat) = 2 ^ 32 := rfl
  have h : a ^^^ b < 4294967296 := by rw [p] at *; exact Nat.xor_lt_two_pow ha hb
  show DV.int .u32 (IntKind.u32.wrap (((BitVec.ofInt 32 (a : Int)) ^^^ (BitVec.ofInt 32 (b : Int))).toNat : Int)) = _
  have e : ((BitVec.ofInt 32 (a : Int)) ^^^ (BitVec.ofInt 32 (b : Int))).toNat = a ^^^ b := by
    rw [BitVec.toNat_xor]
    simp only [BitVec.ofInt_natCast, BitVec.toNat_ofNat]
    rw [Nat.mod_eq_of_lt (by omega), Nat.mod_eq_of_lt (by omega)]
  rw [e, wrap_u32 h]
theorem and_u32 {a b : Nat} (ha : a < 4294967296) (hb : b < 4294967296) : bits2 (fun x y => x &&& y) .u32 a b = .int .u32 ((a &&& b : Nat) : Int) := by
  have h : a &&& b < 4294967296 := Nat.lt_of_le_of_lt Nat.and_le_left ha
  show DV.int .u32 (IntKind.u32.wrap (((BitVec.ofInt 32 (a : Int)) &&& (BitVec.ofInt 32 (b : Int))).toNat : Int)) = _
  have e : ((BitVec.ofInt 32 (a : Int)) &&& (BitVec.ofInt 32 (b : Int))).toNat = a &&& b := by
    rw [BitVec.toNat_and]
    simp only [BitVec.ofInt_natCast, BitVec.toNat_ofNat]
    rw [Nat.mod_eq_of_lt (by omega), Nat.mod_eq_of_lt (by omega)]
  rw [e, wrap_u32 h]
theorem shr_nat (a s : Nat) : ((a : Int).fdiv (2 ^ s)) = ((a >>> s : Nat) : Int) := by
  have h : (2 ^ s : Int) = ((2 ^ s : Nat) : Int) := by simp
  rw [Nat.shiftRight_eq_div_pow, h, Int.fdiv_eq_ediv_of_nonneg _ (Int.natCast_nonneg _), Int.natCast_ediv]
theorem lenD_str {t : TypeId} (h : P.underlying t = some .string) (s : List UInt8) (S : Store) : lenD P t (.str s) S = some (.int .i64 s.length, S, .pure) := by simp [lenD, h]
theorem indexD_str {t : TypeId} (h : P.underlying t = some .string) (s : List UInt8) (k : IntKind) (n : Nat) : indexD P t (.str s) (.int k n) = (s[n]?).map fun b => .int .u8 b.toNat := by
  simp [indexD, h]
theorem indexAddrD_arr {t e : TypeId} {len sz : Nat} (h : P.underlying t = some (.array len e)) (hs : sizeD P e = some sz) (b off : Nat) (k : IntKind) (n : Nat) (hn : n < len) :
    indexAddrD P t (.ref b off) (.int k n) = some (.ref b (off + n * sz)) := by
  simp [indexAddrD, h, hs, hn]
theorem loadD_ref {S : Store} {b off : Nat} {cs : List DV} {kd : Kind} (h : S[b]? = some (.cells cs kd)) : loadD false 1 S (.ref b off) = cs[off]? := by
  simp [loadD, h, atPlace]

theorem boxD_agg (S : Store) (t : TypeId) (cs : List DV) : boxD S t (.agg cs) = some (.ref S.length 0, S ++ [.cells cs (.exact t)]) := id rfl
theorem boxD_int (S : Store) (t : TypeId) (k : IntKind) (n : Int) : boxD S t (.int k n) = some (.ref S.length 0, S ++ [.cells [.int k n] (.exact t)]) := id rfl
theorem boxD_str (S : Store) (t : TypeId) (s : List UInt8) : boxD S t (.str s) = some (.ref S.length 0, S ++ [.cells [.str s] (.exact t)]) := id rfl
theorem unD_not (b : Bool) : unD .not (.bool b) = some (.bool !b) := id rfl
theorem unD_neg (k : IntKind) (n : Int) : unD .neg (.int k n) = some (.int k (k.wrap (0 - n))) := id rfl
theorem nilD_ref (b o : Nat) : nilD (.ref b o) = some (.ref b o) := id rfl
theorem nilD_look (cs : List DV) : nilD (.look cs) = some (.look cs) := id rfl
theorem nilD_nilp : nilD .nilp = none := id rfl
theorem addrEff_ref (b o : Nat) : addrEff (.ref b o) = .read b := id rfl
theorem addrEff_look (cs : List DV) : addrEff (.look cs) = .pure := id rfl
theorem pureR_some' (S : Store) (d : DV) : pureR S (some d) = some (d, S, .pure) := id rfl

theorem seal_bool (n : Nat) (S : Store) (k : Nat) (b : Bool) : sealD n S (k + 1) (.bool b) = some (.bool b) := id rfl
theorem seal_int (n : Nat) (S : Store) (k : Nat) (q : IntKind) (b : Int) : sealD n S (k + 1) (.int q b) = some (.int q b) := id rfl
theorem seal_str (n : Nat) (S : Store) (k : Nat) (b : List UInt8) : sealD n S (k + 1) (.str b) = some (.str b) := id rfl
theorem seal_nilp (n : Nat) (S : Store) (k : Nat) : sealD n S (k + 1) .nilp = some .nilp := id rfl
theorem seal_nils (n : Nat) (S : Store) (k : Nat) : sealD n S (k + 1) .nils = some .nils := id rfl
theorem seal_sl (n : Nat) (S : Store) (k : Nat) (r : List (List DV)) (e : Bool) : sealD n S (k + 1) (.sl r e) = some (.sl r e) := id rfl
theorem seal_tup (n : Nat) (S : Store) (k : Nat) (l : List DV) : sealD n S (k + 1) (.tup l) = (mapO (sealD n S k) l).map .tup := id rfl
theorem seal_agg (n : Nat) (S : Store) (k : Nat) (l : List DV) : sealD n S (k + 1) (.agg l) = (mapO (sealD n S k) l).map .agg := id rfl
theorem seal_ref (n : Nat) (S : Store) (k : Nat) (b o : Nat) : sealD n S (k + 1) (.ref b o) = if b < n then some (.ref b o) else none := id rfl
theorem mapO_nil (f : DV → Option DV) : mapO f [] = some [] := id rfl
theorem mapO_cons (f : DV → Option DV) (d : DV) (ds : List DV) : mapO f (d :: ds) = (f d).bind fun a => (mapO f ds).map fun as => a :: as := by
  simp only [mapO]
  cases f d with
  | none => rfl
  | some a => cases mapO f ds <;> rfl

/-- A byte's cell. -/
def bcell (b : UInt8) : DV := .int .u8 (b.toNat : Int)
theorem bcell_atom (b : UInt8) : (bcell b).atom = true := id rfl
theorem bcell_under (n : Nat) (b : UInt8) : (bcell b).under n = true := id rfl
theorem ofBytes_map (s : List UInt8) : ofBytes s = s.map bcell := id rfl
theorem ofBytes_nil : ofBytes [] = [] := id rfl
theorem ofBytes_cons (b : UInt8) (s : List UInt8) : ofBytes (b :: s) = bcell b :: ofBytes s := id rfl
theorem ofBytes_append (s t : List UInt8) : ofBytes (s ++ t) = ofBytes s ++ ofBytes t := by simp [ofBytes_map]
theorem ofBytes_length (s : List UInt8) : (ofBytes s).length = s.length := by simp [ofBytes]
theorem byteCell_bcell (b : UInt8) : byteCell (bcell b) = some b := by simp [byteCell, bcell]
theorem byteCells_of (s : List UInt8) : byteCells (ofBytes s) = some s := by
  induction s with
  | nil => rfl
  | cons b s ih => rw [ofBytes_cons]; simp only [byteCells, byteCell_bcell, ih]
theorem u8_wrap (a : Nat) : IntKind.u8.wrap (a : Int) = ((UInt8.ofNat a).toNat : Int) := by simp [IntKind.wrap, IntKind.signed, IntKind.bits]
theorem convD_byte {src dst : TypeId} {d : TypeDesc} (h1 : P.underlying src = some d) (h2 : P.underlying dst = some (.int .u8)) (k : IntKind) (a : Nat) (S : Store) :
    convD P src dst (.int k a) S = some (bcell (UInt8.ofNat a), S, .pure) := by
  simp only [convD, h1, h2]; rw [u8_wrap]; rfl
theorem indexD_byte {t : TypeId} (h : P.underlying t = some .string) (s : List UInt8) (k : IntKind) (n : Nat) : indexD P t (.str s) (.int k n) = (s[n]?).map bcell := by
  simp [indexD, h]; rfl
theorem storeD_at {ro lim b off : Nat} {S : Store} {cs : List DV} {k : Kind} {x : DV} (h : S[b]? = some (.cells cs k)) (hk : k.open = true) (ho : off < cs.length) (ha : x.atom = true) (he : escOk ro lim b x = true) :
    storeD ro lim 1 S (.ref b off) x = some (b, S.set b (.cells (cs.set off x) k)) := by
  unfold storeD
  simp only [h]
  cases x with
  | agg cs => simp [DV.atom] at ha
  | _ => simp [ho, hk, ha, he]
theorem storeD_agg {ro lim b off n : Nat} {S : Store} {cs xs : List DV} {k : Kind} (h : S[b]? = some (.cells cs k)) (hk : k.open = true) (hn : xs.length = n) (ho : off + n ≤ cs.length) (ha : xs.all DV.atom = true) (he : escOk ro lim b (.agg xs) = true) :
    storeD ro lim n S (.ref b off) (.agg xs) = some (b, S.set b (.cells (splice cs off xs) k)) := by
  unfold storeD
  simp only [h, hn, ho, hk, ha, he, and_self, if_true]
theorem escOk_in {ro lim b : Nat} {x : DV} (h : ro ≤ b) (hx : x.under (b + 1) = true) : escOk ro lim b x = true := by simp [escOk, h, hx]

theorem sliceD_to {t : TypeId} (h : P.underlying t = some .string) (s : List UInt8) (k : IntKind) (n : Nat) (hn : n ≤ s.length) : sliceD P t (.str s) none (some (.int k (n : Int))) none = some (.str (s.take n)) := by
  have e : (n : Int) ≤ (s.length : Int) := by omega
  simp [sliceD, h, boundsD, boundD, e]
theorem sliceD_from {t : TypeId} (h : P.underlying t = some .string) (s : List UInt8) (k : IntKind) (n : Nat) (hn : n ≤ s.length) : sliceD P t (.str s) (some (.int k (n : Int))) none none = some (.str (s.drop n)) := by
  have e : (n : Int) ≤ (s.length : Int) := by omega
  simp [sliceD, h, boundsD, boundD, e]
theorem sliceD_both {t : TypeId} (h : P.underlying t = some .string) (s : List UInt8) (k k' : IntKind) (a b : Nat) (hab : a ≤ b) (hb : b ≤ s.length) : sliceD P t (.str s) (some (.int k (a : Int))) (some (.int k' (b : Int))) none = some (.str ((s.take b).drop a)) := by
  have e : (b : Int) ≤ (s.length : Int) := by omega
  have e2 : (a : Int) ≤ (b : Int) := by omega
  simp [sliceD, h, boundsD, boundD, e, e2]
theorem wrap_u64 {n : Nat} (h : n < 18446744073709551616) : IntKind.u64.wrap (n : Int) = n := by simp [IntKind.wrap, IntKind.signed, IntKind.bits]; omega
theorem or_u64 {a b : Nat} (ha : a < 18446744073709551616) (hb : b < 18446744073709551616) : bits2 (fun x y => x ||| y) .u64 a b = .int .u64 ((a ||| b : Nat) : Int) := by
  have p : (18446744073709551616 : Nat) = 2 ^ 64 := rfl
  have h : a ||| b < 18446744073709551616 := by rw [p] at *; exact Nat.or_lt_two_pow ha hb
  show DV.int .u64 (IntKind.u64.wrap (((BitVec.ofInt 64 (a : Int)) ||| (BitVec.ofInt 64 (b : Int))).toNat : Int)) = _
  have e : ((BitVec.ofInt 64 (a : Int)) ||| (BitVec.ofInt 64 (b : Int))).toNat = a ||| b := by
    rw [BitVec.toNat_or]
    simp only [BitVec.ofInt_natCast, BitVec.toNat_ofNat]
    rw [Nat.mod_eq_of_lt (by omega), Nat.mod_eq_of_lt (by omega)]
  rw [e, wrap_u64 h]
theorem byte_or {a : Nat} (b : UInt8) (ha : a * 256 < 18446744073709551616) : bits2 (fun x y => x ||| y) .u64 ((a * 256 : Nat) : Int) (b.toNat : Nat) = .int .u64 ((a * 256 + b.toNat : Nat) : Int) := by
  have hb := b.toNat_lt
  rw [or_u64 ha (by omega)]
  have := Nat.shiftLeft_add_eq_or_of_lt (i := 8) (b := b.toNat) hb a
  rw [Nat.shiftLeft_eq] at this
  rw [show a * 256 = a * 2 ^ 8 from rfl, ← this]
theorem effOk_nil (b : Nat) (e : Eff) : effOk b e [] = true := id rfl
theorem effOk_pure (b : Nat) (l : List (Nat × Eff)) : effOk b .pure l = true := by
  induction l with
  | nil => rfl
  | cons x l ih => simp [effOk, ih, Eff.free]
theorem effOk_cons (b : Nat) (e : Eff) (i : Nat) (k : Eff) (l : List (Nat × Eff)) : effOk b e ((i, k) :: l) = ((e.free k || b.testBit i) && effOk b e l) := by simp [effOk]
theorem free_pure (e : Eff) : e.free .pure = true := by cases e <;> rfl
theorem free_rr (a b : Nat) : (Eff.read a).free (.read b) = true := id rfl
theorem free_rl (a : Nat) : (Eff.read a).free .look = true := id rfl
theorem free_lr (a : Nat) : Eff.look.free (.read a) = true := id rfl
theorem free_ll : Eff.look.free .look = true := id rfl
theorem free_rw (a b : Nat) : (Eff.read a).free (.write b) = (a != b) := id rfl
theorem free_wr (a b : Nat) : (Eff.write a).free (.read b) = (b != a) := id rfl

/-- A new box, behind those that are there. -/
theorem new_box (S : Store) (x : Box) : (S ++ [x])[S.length]? = some x := by simp
theorem set_new (S : Store) (x y : Box) : (S ++ [x]).set S.length y = S ++ [y] := by simp

end
attribute [simp] effOk_nil effOk_pure effOk_cons free_pure free_rr free_rl free_lr free_ll free_rw free_wr guardO_tup wrap_i64 bcell_atom bcell_under byteCell_bcell byteCells_of ofBytes_length ofBytes_nil ofBytes_cons ofBytes_append cx_call cx_dcall cx_ro cx_lim cx_k guardO_true guardO_false guardO_true' guardO_false' condB_true condB_false pickD_bool extrD_tup targetD_fn binD_add binD_sub binD_mul binD_quo binD_rem binD_lss binD_leq binD_gtr binD_geq binD_and binD_or binD_xor binD_shl binD_shr binD_cat eqB_int neB_int eqB_str neB_str boxD_agg boxD_int boxD_str unD_not unD_neg nilD_ref nilD_look nilD_nilp addrEff_ref addrEff_look pureR_some' seal_bool seal_int seal_str seal_nilp seal_nils seal_sl seal_tup seal_agg seal_ref mapO_nil mapO_cons new_box set_new
end Go.Dv
