/- crc.On: the sum of bytes. -/
import Derived.Test.YtjojemebfojpnaaGreatDoorBhShA1
import Derived.Test.YtjojemebfojpnaaGreatDoorBhPrim
import Derived.Test.YtjojemebfojpnaaGreatDoorBhExtA
set_option linter.unusedVariables false
set_option maxRecDepth 100000
namespace Go.Dv.A
open Go Go.Proofs Go.Dv

def pureM : Nat := 1561395173487797943556198591082977684424950008
def readM : Nat := 151263909465247023397888
def truncM : Nat := 252254647990878976
def modeA (f : FuncId) : Mode := if pureM.testBit f then .pure else if readM.testBit f then .read else if truncM.testBit f then .trunc else .keep

noncomputable def EA0 : Env := { P := T, G := G0, mode := modeA, ext := fun f => if f = 73 then some (checkX 100) else if f = 111 then some (noZeroX 5) else none }

def crcTab : List Nat := [0, 274646895, 549293790, 820201905, 1098587580, 1361435347, 1640403810, 1905808397, 2197175160, 2460548119, 2722870694, 2987750089, 3280807620, 3553878443, 3811616794, 4084100981]

theorem steps_ok (k : Nat) : callD EA0 (k + 100) false 0 0 122 [] [] = some (.fn (.func 138) [] [.ref 0 0], [.cells (crcTab.map fun (n : Nat) => .int .u32 (n : Int)) (.exact 202)], .eff) := by kernel_rfl

/-- A step by a byte. -/
def stepN (n b : Nat) : Nat :=
  let a := n ^^^ b
  let c := (a >>> 4) ^^^ crcTab.getD (a % 16) 0
  (c >>> 4) ^^^ crcTab.getD (c % 16) 0

theorem tab_lt : ∀ i, i < 16 → crcTab.getD i 0 < 4294967296 := by decide

theorem stepN_lt {n b : Nat} (hn : n < 4294967296) (hb : b < 256) : stepN n b < 4294967296 := by
  have p : (4294967296 : Nat) = 2 ^ 32 := rfl
  have h1 : n ^^^ b < 4294967296 := by rw [p] at *; exact Nat.xor_lt_two_pow hn (by omega)
  have h2 : ((n ^^^ b) >>> 4) ^^^ crcTab.getD ((n ^^^ b) % 16) 0 < 4294967296 := by
    have := tab_lt ((n ^^^ b) % 16) (Nat.mod_lt _ (by omega))
    rw [p] at *
    exact Nat.xor_lt_two_pow (by rw [Nat.shiftRight_eq_div_pow]; omega) this
  unfold stepN
  have := tab_lt ((((n ^^^ b) >>> 4) ^^^ crcTab.getD ((n ^^^ b) % 16) 0) % 16) (Nat.mod_lt _ (by omega))
  rw [p] at *
  exact Nat.xor_lt_two_pow (by rw [Nat.shiftRight_eq_div_pow]; omega) this


theorem tab_at {i : Nat} (h : i < 16) : (crcTab.map fun (n : Nat) => DV.int .u32 (n : Int))[i]? = some (.int .u32 (crcTab.getD i 0 : Nat)) := by
  have hl : crcTab.length = 16 := rfl
  rw [List.getElem?_map, List.getD_eq_getElem?_getD, List.getElem?_eq_getElem (by omega)]
  rfl

theorem step_ok (c : Cx) {n b β : Nat} (hn : n < 4294967296) (hb : b < 256) {S : Store} (hS : S[β]? = some (.cells (crcTab.map fun (n : Nat) => .int .u32 (n : Int)) (.exact 202))) :
    bodyX T G0 c false Tryz.f138 [.int .u32 n, .int .u8 b, .ref β 0] S = some (.int .u32 (stepN n b), S) := by
  have p : (4294967296 : Nat) = 2 ^ 32 := rfl
  have h1 : n ^^^ b < 4294967296 := by rw [p] at *; exact Nat.xor_lt_two_pow hn (by omega)
  have h1s : (n ^^^ b) >>> 4 < 4294967296 := by rw [Nat.shiftRight_eq_div_pow]; omega
  have a1 : (n ^^^ b) &&& 15 = (n ^^^ b) % 16 := Nat.and_two_pow_sub_one_eq_mod _ 4
  have t1 := tab_lt ((n ^^^ b) % 16) (Nat.mod_lt _ (by omega))
  have h2 : ((n ^^^ b) >>> 4) ^^^ crcTab.getD ((n ^^^ b) % 16) 0 < 4294967296 := by rw [p] at *; exact Nat.xor_lt_two_pow h1s t1
  rw [S138_eq]
  have e1 : convD T 5 153 (.int .u8 b) S = some (.int .u32 b, S, .pure) := by
    simp [convD, und_5, und_153, wrap_u32 (show b < 4294967296 by omega)]
  have ia : ∀ m : Nat, indexAddrD T 202 (.ref β 0) (.int .u32 ((m % 16 : Nat) : Int)) = some (.ref β (m % 16)) := fun m => by
    rw [indexAddrD_arr und_202 size_153 _ _ _ _ (Nat.mod_lt _ (by omega))]; simp
  have c4 : (4294967296 : Nat) > 15 := by omega
  have c15 : ((15 : Int)) = ((15 : Nat) : Int) := rfl
  have sh : ∀ a : Nat, binD T .shr 153 (.int .u32 a) (.int .u64 4) = some (.int .u32 ((a >>> 4 : Nat) : Int)) := fun a => by
    rw [binD_shr, if_pos (by omega)]
    show some (DV.int .u32 ((a : Int).fdiv (2 ^ 4))) = _
    rw [shr_nat]
  have h2s : (((n ^^^ b) >>> 4) ^^^ crcTab.getD ((n ^^^ b) % 16) 0) >>> 4 < 4294967296 := by rw [Nat.shiftRight_eq_div_pow]; omega
  have a2 : (((n ^^^ b) >>> 4) ^^^ crcTab.getD ((n ^^^ b) % 16) 0) &&& 15 = (((n ^^^ b) >>> 4) ^^^ crcTab.getD ((n ^^^ b) % 16) 0) % 16 := Nat.and_two_pow_sub_one_eq_mod _ 4
  have t2 := tab_lt ((((n ^^^ b) >>> 4) ^^^ crcTab.getD ((n ^^^ b) % 16) 0) % 16) (Nat.mod_lt _ (by omega))
  simp only [e1, Option.bind_some, binD_xor, binD_and, sh, xor_u32 hn (show b < 4294967296 by omega), c15, and_u32 h1 c4, a1, ia, loadD_ref hS, tab_at (Nat.mod_lt _ (show 16 > 0 by omega)), xor_u32 h1s t1, and_u32 h2 c4, a2, xor_u32 h2s t2]
  rfl

/-- The steps by all bytes. -/
def onN (n : Nat) (s : List UInt8) : Nat := s.foldl (fun n b => stepN n b.toNat) n

theorem onN_lt {s : List UInt8} : ∀ {n : Nat}, n < 4294967296 → onN n s < 4294967296 := by
  induction s with
  | nil => intro n h; exact h
  | cons b s ih => intro n h; exact ih (stepN_lt h b.toNat_lt)

/-- A text's sum, gone on with. -/
def crcOn (n : Nat) (s : List UInt8) : Nat := onN (n ^^^ 4294967295) s ^^^ 4294967295

theorem not_u32 {n : Nat} (h : n < 4294967296) : unD .xor (.int .u32 n) = some (.int .u32 ((n ^^^ 4294967295 : Nat) : Int)) := by
  have := xor_u32 (a := 4294967295) (b := n) (by omega) h
  rw [Nat.xor_comm] at this
  rw [← this]
  rfl

theorem C109 {k ro lim : Nat} {args : List DV} {S : Store} (h : DV.under.underAll 0 args = true) : callD EA0 (k + 1) false ro lim 109 args S = (bodyX T G0 (cx EA0 k 0 0) false Tryz.f109 args []).bind fun p => (sealD 0 p.2 sealDepth p.1).map fun d => (d, S, .pure) :=
  callD_pure (E := EA0) (by kernel_rfl) (by kernel_rfl) (by kernel_rfl) h
theorem C138 {k ro lim : Nat} {args : List DV} {S : Store} : callD EA0 (k + 1) false ro lim 138 args S = (bodyX T G0 (cx EA0 k ro lim) false Tryz.f138 args S).map fun p => (p.1, p.2, .eff) :=
  callD_keep (E := EA0) (by kernel_rfl) (by kernel_rfl) (by kernel_rfl)

abbrev tabS : Store := [.cells (crcTab.map fun (n : Nat) => .int .u32 (n : Int)) (.exact 202)]

theorem on_loop (k : Nat) (s : List UInt8) (u0 u2 u3 : DV) : ∀ (m i n : Nat) (x8 x9 x10 x11 x12 x13 x14 x15 x16 x17 x18 x19 x20 x21 x22 x23 x24 : DV), n < 4294967296 → s.length + 1 ≤ i + m → i ≤ s.length → s.length ≤ 4611686018427387904 →
    iterD m (L109_0 (cx EA0 (k + 1) 0 0) (K109_0 (cx EA0 (k + 1) 0 0))) ⟨[u0, .str s, u2, u3, .int .u32 0, .fn (.func 138) [] [.ref 0 0], .int .u32 n, .int .i64 i, x8, x9, x10, x11, x12, x13, x14, x15, x16, x17, x18, x19, x20, x21, x22, x23, x24], []⟩ tabS =
      some (.int .u32 ((onN n (s.drop i) ^^^ 4294967295 : Nat) : Int), tabS) := by
  intro m
  induction m with
  | zero => intros; omega
  | succ m ih =>
    intro i n x8 x9 x10 x11 x12 x13 x14 x15 x16 x17 x18 x19 x20 x21 x22 x23 x24 hn him hi hl
    rw [iterD_succ, L109_0_eq]
    simp only [lenD_str und_9, Option.bind_some, binD_lss]
    by_cases hlt : i < s.length
    · have hd : decide ((i : Int) < (s.length : Int)) = true := by simpa using hlt
      have hb : s[i]? = some s[i] := List.getElem?_eq_getElem hlt
      have hcall : (cx EA0 (k + 1) 0 0).call 138 [.int .u32 n, .int .u8 (s[i].toNat : Nat), .ref 0 0] tabS = some (.int .u32 (stepN n s[i].toNat), tabS, .eff) := by
        rw [cx_call, C138, step_ok _ hn s[i].toNat_lt rfl]
        rfl
      simp only [hd, condB_true, indexD_str und_9, hb, Option.map_some, Option.bind_some, targetD_fn, List.nil_append, List.cons_append, hcall, binD_add, wrap_i64 (show -9223372036854775808 ≤ (i : Int) + 1 by omega) (show (i : Int) + 1 ≤ 9223372036854775807 by omega)]
      have hc : ((i : Int) + 1) = ((i + 1 : Nat) : Int) := by omega
      rw [hc, ih (i + 1) (stepN n s[i].toNat) _ _ _ _ _ _ _ _ _ _ _ _ _ _ _ _ _ (stepN_lt hn s[i].toNat_lt) (by omega) (by omega) hl]
      rw [List.drop_eq_getElem_cons hlt]
      rfl
    · have hd : decide ((i : Int) < (s.length : Int)) = false := by simp; omega
      simp only [hd, condB_false, K109_0_0, not_u32 hn, Option.bind_some]
      rw [List.drop_of_length_le (by omega)]
      rfl

/-- crc.On, as a function of data. -/
theorem on_ok (k : Nat) (n : Nat) (s : List UInt8) (ro lim : Nat) (S : Store) (hn : n < 4294967296) (hl : s.length ≤ k) (hk : s.length ≤ 4611686018427387904) :
    callD EA0 (k + 102) false ro lim 109 [.int .u32 n, .str s] S = some (.int .u32 (crcOn n s), S, .pure) := by
  rw [C109 rfl, S109_eq]
  have e := steps_ok (k + 1)
  rw [show k + 1 + 100 = k + 100 + 1 by omega] at e
  simp only [cx_call, cx_k, show k + 101 = k + 100 + 1 from rfl, e, Option.bind_some, not_u32 hn]
  have h0 := on_loop (k + 100) s (.int .u32 n) (.tup []) (.tup []) (k + 100 + 1) 0 (n ^^^ 4294967295) (.fn (.func 138) [] [.ref 0 0]) (.int .u32 n) (.int .u32 ((n ^^^ 4294967295 : Nat) : Int)) (.tup []) (.tup []) (.tup []) (.tup []) (.tup []) (.tup []) (.tup []) (.tup []) (.tup []) (.tup []) (.tup []) (.tup []) (.tup []) (.tup [])
    (Nat.xor_lt_two_pow (n := 32) hn (by omega)) (by omega) (by omega) hk
  have e0 : ((0 : Nat) : Int) = 0 := rfl
  rw [List.drop_zero, e0] at h0
  rw [h0]
  rfl
end Go.Dv.A
