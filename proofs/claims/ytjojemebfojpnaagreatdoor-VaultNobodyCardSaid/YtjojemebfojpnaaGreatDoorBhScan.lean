/- frame.Scan (a range over the frames of a journal) from outside, at the seat a. -/
import Derived.Test.YtjojemebfojpnaaGreatDoorBhTop
import Derived.Test.YtjojemebfojpnaaGreatDoorBhTabA
import Derived.RangeFuncBox
import Derived.RangeFuncNested
import Derived.RangeFuncLeaves
import Derived.Shelf.Abstract
import Derived.WalkKit
import Derived.OwnWalkIn
import Derived.TacticsInMore
import Derived.LoopNIn
import Derived.LoopIn
import Derived.Maps.AppendAt
import Derived.Lib.Hide
set_option linter.unusedVariables false
set_option linter.unusedSimpArgs false
namespace Go.Dv
open Go Go.RowKit Go.Shelf Go.Proofs

attribute [local go_sem] Oper.semAt_some

/-- What frame.Get tells: epoch, number, body; the sector behind it; the error. -/
structure Got where
  ep : Int
  sq : Int
  body : List UInt8
  to : Int
  e : Int

/-- frame.Get, as a function of data. -/
def GetOk (P : Program) (f : FuncId) (get : List UInt8 → Int → Option Got) : Prop :=
  ∀ s a r, get s a = some r → ∀ W, Calls P f #[.string ⟨s.toArray⟩, .int .i64 a] W fun e w' =>
    e = .returned (.tuple #[.agg #[.int .i64 r.ep, .int .i64 r.sq, .string ⟨r.body.toArray⟩], .int .i64 r.to, .int .i64 r.e]) ∧ Below W.heap.size W w'

/-- The frames from a sector on: the sector behind each, and the body. -/
def scanL (get : List UInt8 → Int → Option Got) (s : List UInt8) (epoch : Int) : Nat → Int → Int → Option (List (Int × List UInt8))
  | 0, _, _ => none
  | k + 1, a, seq => match get s a with
    | some r => if r.e = 0 ∧ r.ep = epoch ∧ r.sq = seq then (scanL get s epoch k r.to (seq + 1)).map ((r.to, r.body) :: ·) else some []
    | none => none

theorem scanL_length {get : List UInt8 → Int → Option Got} {s : List UInt8} {epoch : Int} : ∀ {k : Nat} {a seq : Int} {L : List (Int × List UInt8)}, scanL get s epoch k a seq = some L → L.length < k
  | 0, _, _, _, h => by cases h
  | k + 1, a, seq, L, h => by
    simp only [scanL] at h
    split at h
    · split at h
      · rw [Option.map_eq_some_iff] at h
        obtain ⟨L', h', rfl⟩ := h
        have := scanL_length h'
        simp; omega
      · injection h with h; subst h; simp
    · cases h

abbrev encF (x : Int × List UInt8) : Array Value := #[.int .i64 x.1, .string ⟨x.2.toArray⟩]

/-- Two boxes are as they were. -/
def KeepB (Bs Be : Nat) (W W' : World) : Prop := W'.heap[Bs]? = W.heap[Bs]? ∧ W'.heap[Be]? = W.heap[Be]?

theorem cell_lt {W : World} {b o : Nat} {v : Value} (h : W.cell? ⟨b, o, none⟩ = some v) : b < W.heap.size := by
  by_cases hb : b < W.heap.size
  · exact hb
  · exfalso
    have : W.heap[b]? = none := Array.getElem?_eq_none (by omega)
    simp [World.cell?, this] at h

set_option maxRecDepth 100000 in
set_option maxHeartbeats 2000000 in
theorem frames1_in {get : List UInt8 → Int → Option Got} (hget : GetOk Tryz.prog 63 get) (l Bs Be n k : Nat) (hn : 1 ≤ n) (s : List UInt8) (epoch : Int) (L : List (Int × List UInt8)) (hk : k ≤ 1099511627776)
    (hL : scanL get s epoch k 0 1 = some L) (J Jx : List (Int × List UInt8) → World → Prop) (W : World) (hJ : AbidesFrom W.heap.size J)
    (hY : ∀ pre x W, J pre W → pre.length < L.length → YieldAt Fence.wide (n - 1) Tryz.prog l (encF x) W fun e W' =>
      (e = .returned (.bool true) ∧ J (pre ++ [x]) W' ∧ KeepB Bs Be W W') ∨ (e = .returned (.bool false) ∧ Jx (pre ++ [x]) W'))
    (hs : W.cell? ⟨Bs, 0, none⟩ = some (.string ⟨s.toArray⟩)) (he : W.cell? ⟨Be, 0, none⟩ = some (.int .i64 epoch)) (h0 : J [] W) :
    CallsIn Fence.wide n Tryz.prog 108 #[.func (.yield l) #[] #[], .pointer (some ⟨Bs, 0, none⟩), .pointer (some ⟨Be, 0, none⟩)] W fun e W' => (∃ v, e = .returned v) ∧
      ((∃ ys, ys = L ∧ J ys W') ∨ (∃ pre, pre <+: L ∧ Jx pre W')) := by
  refine callsIn_of_wp Tryz.func108 rfl trivial ?_ rfl
  simp only [Tryz.ntmps108, List.size_toArray, List.length_cons, List.length_nil, Nat.reduceAdd, Nat.reduceSub, Array.replicate_succ, Array.replicate_zero, List.push_toArray, List.append_toArray, List.nil_append, List.cons_append]
  gi_wp2
  gi_loopw [4, 5] (fun p q wr => ∃ (pre rest : List (Int × List UInt8)) (a : Int) (j : Nat), p = .int .i64 a ∧ q = .int .i64 (1 + (pre.length : Int)) ∧ L = pre ++ rest ∧ scanL get s epoch j a (1 + (pre.length : Int)) = some rest ∧ wr.cell? ⟨Bs, 0, none⟩ = some (.string ⟨s.toArray⟩) ∧ wr.cell? ⟨Be, 0, none⟩ = some (.int .i64 epoch) ∧ J pre wr)
    (fun _ q wr => L.length + 1 - (intOf q).toNat)
  case atStart => exact ⟨[], L, 0, k, rfl, rfl, rfl, hL, hs, he, h0⟩
  case round =>
    obtain ⟨pre, rest, a, j, rfl, rfl, hx, hsc, hs', he', hJs⟩ := hrel
    cases j with
    | zero => cases hsc
    | succ j =>
    simp only [scanL] at hsc
    cases hg : get s a with
    | none => rw [hg] at hsc; cases hsc
    | some r =>
    rw [hg] at hsc
    dsimp only at hsc
    have hBs := cell_lt hs'
    have hBe := cell_lt he'
    have hget' := hget s a r hg
    have hpl : (pre.length : Int) ≤ 1099511627776 := by have := scanL_length hL; rw [hx] at this; simp at this; omega
    have HX := Lib.hid hx
    have HG := Lib.hid hg
    have HK := Lib.hid hk
    clear hx hg hL hk
    by_cases hc : r.e = 0 ∧ r.ep = epoch ∧ r.sq = 1 + (pre.length : Int)
    · rw [if_pos hc, Option.map_eq_some_iff] at hsc
      obtain ⟨rest', hsc, rfl⟩ := hsc
      obtain ⟨re, rep, rsq⟩ := hc
      rw [re, rep, rsq] at hget'
      have HSC := Lib.hid hsc
      clear hsc
      have hlen : pre.length < L.length := by rw [HX.out]; simp
      have HLT := Lib.hid hlen
      clear hlen
      gi_wp2_with fail
      refine ⟨trivial, (callsIn_wide.2 (hget' _)).mono ?_⟩
      rintro e w1 ⟨rfl, hb1⟩
      have hb2 : Below wr.heap.size wr (w1.alloc (.cells #[.int .i64 epoch, .int .i64 (1 + (pre.length : Int)), .string ⟨r.body.toArray⟩] 49)) := hb1.alloc hb1.size _
      have hcb := (hb2.cell (p := ⟨Be, 0, none⟩) hBe).trans he'
      have hJ2 := hJ _ _ _ none hJs ⟨hb2.os, hb2.tape, hb2.output, hb2.size, fun k hk _ => hb2.block k hk⟩ (fun _ e => by cases e)
      obtain ⟨fn, tmps, assign, body, hy, hR⟩ := hY pre (r.to, r.body) _ hJ2 HLT.out
      dsimp only [encF] at hy
      gi_wp2
      refine hR.mono ?_
      rintro e W3 (⟨rfl, hJ3, hk3⟩ | ⟨rfl, hJx3⟩)
      · gi_wp2
        go_roundw
        case rel => exact ⟨pre ++ [(r.to, r.body)], rest', r.to, j, rfl, by simp; omega, by simp [HX.out], by have := HSC.out; simpa [Int.add_assoc] using this, (World.cell?_of_block (w := wr) (a := ⟨Bs, 0, none⟩) (hk3.1.trans (hb2.block Bs hBs))).trans hs', (World.cell?_of_block (w := wr) (a := ⟨Be, 0, none⟩) (hk3.2.trans (hb2.block Be hBe))).trans he', hJ3⟩
        case measure => simp [intOf]; have := HLT.out; omega
      · gi_wp2
        refine bodyPost_ret (results_none rfl _ _ _) rfl ?_
        exact ⟨⟨_, rfl⟩, .inr ⟨pre ++ [(r.to, r.body)], ⟨rest', by simp [HX.out]⟩, hJx3⟩⟩
    · rw [if_neg hc] at hsc
      injection hsc with hsc
      subst hsc
      by_cases re : r.e = 0
      · by_cases rep : r.ep = epoch
        · have rsq : ¬ r.sq = 1 + (pre.length : Int) := fun h => hc ⟨re, rep, h⟩
          rw [re, rep] at hget'
          generalize r.sq = sq at hget' rsq
          have h1 : (sq != 1 + (pre.length : Int)) = true := by simpa using rsq
          have h2 : (sq == 1 + (pre.length : Int)) = false := by simpa using rsq
          clear hc rsq
          gi_wp2_with fail
          refine ⟨trivial, (callsIn_wide.2 (hget' _)).mono ?_⟩
          rintro e w1 ⟨rfl, hb1⟩
          have hb2 : Below wr.heap.size wr (w1.alloc (.cells #[.int .i64 epoch, .int .i64 sq, .string ⟨r.body.toArray⟩] 49)) := hb1.alloc hb1.size _
          have hcb := (hb2.cell (p := ⟨Be, 0, none⟩) hBe).trans he'
          have hJ2 := hJ _ _ _ none hJs ⟨hb2.os, hb2.tape, hb2.output, hb2.size, fun k hk _ => hb2.block k hk⟩ (fun _ e => by cases e)
          gi_wp2
          refine ⟨fun _ h => (by cases h), ?_⟩
          gi_wp2
          refine bodyPost_ret (results_none rfl _ _ _) rfl ?_
          exact ⟨⟨_, rfl⟩, .inl ⟨pre, by simp [HX.out], hJ2⟩⟩
        · rw [re] at hget'
          generalize r.ep = ep at hget' rep
          have h1 : (ep != epoch) = true := by simpa using rep
          have h2 : (ep == epoch) = false := by simpa using rep
          clear hc rep
          gi_wp2_with fail
          refine ⟨trivial, (callsIn_wide.2 (hget' _)).mono ?_⟩
          rintro e w1 ⟨rfl, hb1⟩
          have hb2 : Below wr.heap.size wr (w1.alloc (.cells #[.int .i64 ep, .int .i64 r.sq, .string ⟨r.body.toArray⟩] 49)) := hb1.alloc hb1.size _
          have hcb := (hb2.cell (p := ⟨Be, 0, none⟩) hBe).trans he'
          have hJ2 := hJ _ _ _ none hJs ⟨hb2.os, hb2.tape, hb2.output, hb2.size, fun k hk _ => hb2.block k hk⟩ (fun _ e => by cases e)
          gi_wp2
          refine ⟨fun _ h => (by cases h), ?_⟩
          gi_wp2
          refine bodyPost_ret (results_none rfl _ _ _) rfl ?_
          exact ⟨⟨_, rfl⟩, .inl ⟨pre, by simp [HX.out], hJ2⟩⟩
      · generalize r.e = re0 at hget' re
        have h1 : (re0 != 0) = true := by simpa using re
        have h2 : (re0 == 0) = false := by simpa using re
        clear hc re
        gi_wp2_with fail
        refine ⟨trivial, (callsIn_wide.2 (hget' _)).mono ?_⟩
        rintro e w1 ⟨rfl, hb1⟩
        have hb2 : Below wr.heap.size wr (w1.alloc (.cells #[.int .i64 r.ep, .int .i64 r.sq, .string ⟨r.body.toArray⟩] 49)) := hb1.alloc hb1.size _
        have hJ2 := hJ _ _ _ none hJs ⟨hb2.os, hb2.tape, hb2.output, hb2.size, fun k hk _ => hb2.block k hk⟩ (fun _ e => by cases e)
        gi_wp2
        refine ⟨fun _ h => (by cases h), ?_⟩
        gi_wp2
        refine bodyPost_ret (results_none rfl _ _ _) rfl ?_
        exact ⟨⟨_, rfl⟩, .inl ⟨pre, by simp [HX.out], hJ2⟩⟩

set_option maxHeartbeats 1000000 in
theorem frames_in (n : Nat) (s : ByteArray) (epoch : Int) (w : World) :
    CallsIn Fence.wide n Tryz.prog 87 #[.string s, .int .i64 epoch] w fun e w' => e = .returned (.func (.func 108) #[] #[.pointer (some ⟨w.heap.size, 0, none⟩), .pointer (some ⟨w.heap.size + 1, 0, none⟩)]) ∧
      w' = (w.alloc (.cells #[.string s] 9)).alloc (.cells #[.int .i64 epoch] 3) := by
  refine callsIn_of_wp Tryz.func87 rfl trivial ?_ rfl
  simp only [Tryz.ntmps87, List.size_toArray, List.length_cons, List.length_nil, Nat.reduceAdd, Nat.reduceSub, Array.replicate_succ, Array.replicate_zero, List.push_toArray, List.append_toArray, List.nil_append, List.cons_append]
  gi_wp2
  go_ret
  exact ⟨rfl, rfl⟩

theorem frames_stops {get : List UInt8 → Int → Option Got} (hget : GetOk Tryz.prog 63 get) (n k Bs Be : Nat) (hn : 1 ≤ n) (s : List UInt8) (epoch : Int) (L : List (Int × List UInt8)) (hk : k ≤ 1099511627776)
    (hL : scanL get s epoch k 0 1 = some L) (w : World)
    (hs : w.cell? ⟨Bs, 0, none⟩ = some (.string ⟨s.toArray⟩)) (he : w.cell? ⟨Be, 0, none⟩ = some (.int .i64 epoch)) :
    SeqStopsK Fence.wide n Tryz.prog 108 #[.pointer (some ⟨Bs, 0, none⟩), .pointer (some ⟨Be, 0, none⟩)] encF (KeepB Bs Be) (fun ys => ys = L) (fun pre => pre <+: L) L.length w := fun l J Jx W hW hJ _ hY h0 =>
  frames1_in hget l Bs Be n k hn s epoch L hk hL J Jx W hJ hY ((hW.cell (p := ⟨Bs, 0, none⟩) (cell_lt hs)).trans hs) ((hW.cell (p := ⟨Be, 0, none⟩) (cell_lt he)).trans he) h0

theorem Tryz.info9s : (Tryz.prog.info? 9).map (fun i => (i.zero, i.size, i.bytes)) = some (some (.string ⟨#[]⟩), 1, 16) := by kernel_rfl

/-- The sector behind the last frame. -/
def lastTo : List (Int × List UInt8) → Int
  | [] => 0
  | [x] => x.1
  | _ :: y :: l => lastTo (y :: l)

theorem lastTo_snoc : ∀ (l : List (Int × List UInt8)) (x : Int × List UInt8), lastTo (l ++ [x]) = x.1
  | [], x => rfl
  | [_], x => rfl
  | _ :: y :: l, x => lastTo_snoc (y :: l) x

abbrev bodyV (x : Int × List UInt8) : Value := .string ⟨x.2.toArray⟩

theorem own_ge {W : World} {base : Nat} {e : TypeId} {size k : Nat} {v : Value} {xs : List Value} (h : W.ownsRow base e size v k xs) {j : Nat} (hj : v.ownBlock = some j) : base ≤ j := by
  rcases h.2 with ⟨rfl, _⟩ | ⟨g, cap, cur, rfl, hb, _⟩
  · simp [Value.ownBlock] at hj
  · obtain rfl : g = j := by simpa [Value.ownBlock] using hj
    exact hb

theorem scan_step {w W w1 : World} {n0 : Nat} {v v' u : Value} {k m : Nat} {xs ys : List Value} {tmp : Obj} (hv : Boxed W n0 32 v) (hrow : W.ownsRow (n0 + 4) 9 1 v k xs) (h7 : Boxed W (n0 + 1) 3 u) (hB : Below n0 w W) (hsz : n0 + 4 ≤ W.heap.size)
    (hown' : w1.ownsRow (n0 + 4) 9 1 v' m ys) (hgrow : (W.alloc tmp).grownBy w1 v.ownBlock) (u' : Value) :
    Boxed w1 n0 32 v ∧ Boxed (w1.setCell ⟨n0, 0, none⟩ v') (n0 + 1) 3 u ∧ Boxed ((w1.setCell ⟨n0, 0, none⟩ v').setCell ⟨n0 + 1, 0, none⟩ u') n0 32 v' ∧ Boxed ((w1.setCell ⟨n0, 0, none⟩ v').setCell ⟨n0 + 1, 0, none⟩ u') (n0 + 1) 3 u' ∧
      ((w1.setCell ⟨n0, 0, none⟩ v').setCell ⟨n0 + 1, 0, none⟩ u').ownsRow (n0 + 4) 9 1 v' m ys ∧ KeepsOthers W ((w1.setCell ⟨n0, 0, none⟩ v').setCell ⟨n0 + 1, 0, none⟩ u') ∧
      KeepB (n0 + 2) (n0 + 3) W ((w1.setCell ⟨n0, 0, none⟩ v').setCell ⟨n0 + 1, 0, none⟩ u') ∧ Below n0 w ((w1.setCell ⟨n0, 0, none⟩ v').setCell ⟨n0 + 1, 0, none⟩ u') ∧ n0 + 4 ≤ ((w1.setCell ⟨n0, 0, none⟩ v').setCell ⟨n0 + 1, 0, none⟩ u').heap.size := by
  have hv1 : Boxed w1 n0 32 v := (hv.alloc tmp).kept hgrow (hv.not_row (by decide) hrow)
  have h71 : Boxed w1 (n0 + 1) 3 u := (h7.alloc tmp).kept hgrow (h7.not_row (by decide) hrow)
  have h72 : Boxed (w1.setCell ⟨n0, 0, none⟩ v') (n0 + 1) 3 u := h71.other (by omega) v'
  have hv2 := hv1.set v'
  have hr2 : (w1.setCell ⟨n0, 0, none⟩ v').ownsRow (n0 + 4) 9 1 v' m ys := hown'.kept (grownBy_setCell' w1 n0 v') (.inr (hv1.not_row (by decide) hown').symm)
  have hk : KeepsOthers W w1 := (KeepsOthers.alloc W tmp).trans (KeepsOthers.of_grownBy hgrow fun j o ej hj => by
    rcases (hrow.alloc tmp).2 with ⟨rfl, _⟩ | ⟨g, cap, cur, rfl, _, hgb, _⟩
    · simp [Value.ownBlock] at ej
    · obtain rfl : g = j := by simpa [Value.ownBlock] using ej
      rw [hgb] at hj; cases hj; rfl)
  have hsame : ∀ b, b < n0 + 4 → w1.heap[b]? = W.heap[b]? := fun b hb =>
    (hgrow.block b (by simp; omega) (fun e => by have := own_ge hrow e.symm; omega)).trans (Below.heap_alloc _ _ _ (by omega))
  refine ⟨hv1, h72, hv2.other (by omega) u', h72.set u', hr2.kept (grownBy_setCell' _ _ u') (.inr (h72.not_row (by decide) hr2).symm), (hk.trans (KeepsOthers.setCell _ _ _)).trans (KeepsOthers.setCell _ _ _), ⟨?_, ?_⟩, ?_, ?_⟩
  · rw [Below.heap_setCell _ _ _ _ (by simp), Below.heap_setCell _ _ _ _ (by simp)]; exact hsame _ (by omega)
  · rw [Below.heap_setCell _ _ _ _ (by simp), Below.heap_setCell _ _ _ _ (by simp)]; exact hsame _ (by omega)
  · exact (((hB.alloc (by omega) tmp).grown hgrow (by simp; omega) fun j ej => by have := own_ge hrow ej; omega).setCell (p := ⟨n0, 0, none⟩) (Nat.le_refl _) v').setCell (p := ⟨n0 + 1, 0, none⟩) (by simp) u'
  · have := hgrow.size
    simp at this
    simp [World.setCell]
    omega

set_option maxRecDepth 100000 in
set_option maxHeartbeats 2000000 in
theorem scanF_in {get : List UInt8 → Int → Option Got} (hget : GetOk Tryz.prog 63 get) (k : Nat) (s : List UInt8) (epoch : Int) (L : List (Int × List UInt8)) (hk : k ≤ 1099511627776)
    (hL : scanL get s epoch k 0 1 = some L) (w : World) :
    CallsIn Fence.wide 5 Tryz.prog 64 #[.string ⟨s.toArray⟩, .int .i64 epoch] w fun e W' => ∃ v, e = .returned (.tuple #[v, .int .i64 (lastTo L)]) ∧
      W'.ownsRow (w.heap.size + 4) 9 1 v L.length (L.map bodyV) ∧ (v = .slice none 0 0 ↔ L = []) ∧ Below w.heap.size w W' := by
  have h1 : 1 ≤ 5 := by omega
  obtain ⟨i0, hi, hz0, hz1, hz2⟩ := info_parts Tryz.info9s
  refine callsIn_of_wp_marks Tryz.func64 rfl trivial ?_ rfl
  simp only [Tryz.ntmps64, List.size_toArray, List.length_cons, List.length_nil, Nat.reduceAdd, Nat.reduceSub, Array.replicate_succ, Array.replicate_zero, List.push_toArray, List.append_toArray, List.nil_append, List.cons_append]
  have HL := Lib.hid hL
  have hlen := scanL_length hL
  clear hL
  gi_wp2_with (refine ⟨trivial, ?_⟩; gi_at_call 87; refine (frames_in 4 _ _ _).mono ?_; rintro e w' ⟨rfl, rfl⟩)
  obtain ⟨n0, hn0⟩ : ∃ n0, w.heap.size = n0 := ⟨_, rfl⟩
  obtain ⟨W0, hW0⟩ : ∃ W0, ((((w.alloc (Obj.cells #[Value.slice none 0 0] 32)).alloc (Obj.cells #[Value.int IntKind.i64 0] 3)).alloc (Obj.cells #[Value.string { data := s.toArray }] 9)).alloc (Obj.cells #[Value.int IntKind.i64 epoch] 3)) = W0 := ⟨_, rfl⟩
  have hB0 : Below n0 w W0 := by rw [← hW0]; exact ((((Below.refl _ w).alloc (by omega) _).alloc (by simp; omega) _).alloc (by simp; omega) _).alloc (by simp; omega) _
  have hsz0 : W0.heap.size = n0 + 4 := by rw [← hW0]; simp [hn0]
  have b6 : Boxed W0 n0 32 (.slice none 0 0) := by rw [← hW0, ← hn0]; exact (((Boxed.new w 32 _).alloc _).alloc _).alloc _
  have b7 : Boxed W0 (n0 + 1) 3 (.int .i64 0) := by
    have := Boxed.new (w.alloc (Obj.cells #[Value.slice none 0 0] 32)) 3 (.int .i64 0)
    rw [World.size_alloc, hn0] at this
    rw [← hW0]; exact (this.alloc _).alloc _
  have b8 : Boxed W0 (n0 + 2) 9 (.string ⟨s.toArray⟩) := by
    have := Boxed.new ((w.alloc (Obj.cells #[Value.slice none 0 0] 32)).alloc (Obj.cells #[Value.int IntKind.i64 0] 3)) 9 (.string ⟨s.toArray⟩)
    rw [World.size_alloc, World.size_alloc, hn0] at this
    rw [← hW0]; exact this.alloc _
  have b9 : Boxed W0 (n0 + 3) 3 (.int .i64 epoch) := by
    have := Boxed.new (((w.alloc (Obj.cells #[Value.slice none 0 0] 32)).alloc (Obj.cells #[Value.int IntKind.i64 0] 3)).alloc (Obj.cells #[Value.string { data := s.toArray }] 9)) 3 (.int .i64 epoch)
    rw [World.size_alloc, World.size_alloc, World.size_alloc, hn0] at this
    rw [← hW0]; exact this
  rw [hW0]
  rw [hn0]
  clear hW0
  refine wpIn_rangeFunc_ownG rfl h1 (gf := 108) (lb := #[.pointer (some ⟨n0 + 2, 0, none⟩), .pointer (some ⟨n0 + 3, 0, none⟩)]) rfl trivial (enters_of Tryz.func108 (by kernel_rfl) rfl)
    (frames_stops hget (5 - 1) k (n0 + 2) (n0 + 3) (by omega) s epoch L hk HL.out W0 b8.cell b9.cell)
    (fun h k => ⟨k.1.trans h.1, k.2.trans h.2⟩)
    (fun W l o o' hl h _ _ => ⟨World.putObj_heap_other (by omega), World.putObj_heap_other (by omega)⟩) (Below.refl _ _) (fun _ => rfl)
    (fun pre W => (∃ v, Boxed W n0 32 v ∧ W.ownsRow (n0 + 4) 9 1 v pre.length (pre.map bodyV) ∧ (v = .slice none 0 0 ↔ pre = [])) ∧ (Boxed W (n0 + 1) 3 (.int .i64 (lastTo pre)) ∧ (Below n0 w W ∧ n0 + 4 ≤ W.heap.size)))
    (fun _ _ _ => False)
    (OwnFrom.and (Own.from (holdsRow_own (n0 + 4) n0 32 9 1 (fun pre : List (Int × List UInt8) => pre.length) (fun pre => pre.map bodyV) (fun pre v => v = .slice none 0 0 ↔ pre = [])) _) (OwnFrom.and (Own.from (boxed_own (n0 + 1) 3 (fun pre : List (Int × List UInt8) => .int .i64 (lastTo pre))) _) (OwnFrom.and (ownFrom_below (by omega) (by omega)) (fun s A B row hs hg hr => Nat.le_trans hs hg.size))))
    (fun _ _ _ _ _ hs _ _ => hs)
    ⟨⟨_, b6, World.ownsRow_nil _ _ _ _, by simp⟩, b7, hB0, by omega⟩
    (fun x => { tmps := #[.string ⟨s.toArray⟩, .int .i64 epoch, undef, undef, .slice none 0 0, .int .i64 0, .pointer (some ⟨n0, 0, none⟩), .pointer (some ⟨n0 + 1, 0, none⟩), .int .i64 x.1, .string ⟨x.2.toArray⟩, .string ⟨s.toArray⟩, .int .i64 epoch, .func (.func 108) #[] #[.pointer (some ⟨n0 + 2, 0, none⟩), .pointer (some ⟨n0 + 3, 0, none⟩)], .int .i64 x.1, .string ⟨x.2.toArray⟩, undef, undef, undef, undef, undef, undef, undef], defers := [] }) ?assign ?body ?done ?stop
  case assign =>
    intro l x W K hK
    gi_wp2
    exact hK
  case body =>
    rintro l pre x W ⟨⟨v, hv, hrow, hnil⟩, h7, hB, hsz⟩ hlt
    have hc := hv.cell
    have hm : pre.length + 1 ≤ maxLen := by unfold maxLen; omega
    gi_wp2_with (gi_at_builtin; refine wpListIn_append_own _ rfl _ _ 32 rfl (n0 + 4) 9 i0 (.string ⟨#[]⟩) 1 16 Tryz.underlying32 hi hz0 hz1 hz2 rfl (by decide) _ _ _ rfl (hrow.alloc _) ⟨W.heap.size, 0, none⟩ 1 1 [.string ⟨x.2.toArray⟩] rfl rfl (cell_one_new _ _ _) (by simp [Value.oneCell']) (by omega) (by omega) (by simp; omega) ?_; intro v' w1 hown' hgrow _; obtain ⟨g', cap', rfl⟩ := ownsRow_succ hown'; obtain ⟨g6, g7, k6, k7, kr, ko, kb, kB, ks⟩ := scan_step hv hrow h7 hB hsz hown' hgrow (.int .i64 x.1); have hc1 := g6.cell; have hf1 := g6.frozen; have hc2 := g7.cell; have hf2 := g7.frozen)
    exact ⟨ko.from _, kb, ⟨_, k6, by simpa using kr, by simp⟩, by rw [lastTo_snoc]; exact k7, kB, ks⟩
  case done =>
    rintro D ys W hD rfl ⟨⟨v, hv, hrow, hnil⟩, h7, hB, hsz⟩ hK
    have hc := hv.cell
    have hc7 := h7.cell
    gi_wp2
    gi_region
    all_goals
      gi_wp2
      have hK' : W.drew.heap[D]? = some (.deferred (some [])) := hK
      have hr' : W.drew.ownsRow (n0 + 4) 9 1 v ys.length (ys.map bodyV) := hrow
      refine ⟨by simp, .inl ⟨_, _, rfl, run_takeDeferred hK', ?_⟩⟩
      subst hn0
      exact ⟨.tuple #[v, .int .i64 (lastTo ys)], by simp [results, Tryz.f64, go_sem], v, rfl, ownsRow_putObj hr' _ hK' rfl, hnil, hB.drew.trans (belowK_b (w := w) (Nat.le_refl _) _ D _ _ (by omega) hK' rfl rfl)⟩
  case stop =>
    rintro D c pre W _ _ h _
    exact h.elim

/-- A new row of cells, of which nothing is written any more. -/
def Mem.more (M : Mem) (g : Nat) (cur : Array Value) : Mem := fun β o => if β = g then cur[o]? else M β o

theorem Step.belowMem {M : Mem} {σ : Inj} {S : Store} {w w' : World} (hr : Rel M σ S w) (h : Below w.heap.size w w') {g : Nat} {cur : Array Value} {el : TypeId} {fz : Nat × Nat} (hg : w.heap.size ≤ g) (hgb : w'.heap[g]? = some (.cells cur el fz)) :
    Step M σ S w (M.more g cur) σ S w' := by
  have hnone : ∀ o, M g o = none := fun o => by
    cases hm : M g o with
    | none => rfl
    | some v => have := cell_lt (hr.mem g o v hm); omega
  have hle : M.le (M.more g cur) := fun β o v hm => by
    unfold Mem.more
    split
    · rename_i e; subst e; rw [hnone] at hm; cases hm
    · exact hm
  have hb : ∀ β, β < w.heap.size → w'.heap[β]? = w.heap[β]? := h.block
  refine ⟨hle, fun β o v hm => ?_, Inj.le_refl σ, ⟨fun β o v hm => ?_, fun b β n hb' => ⟨(hr.dom b β n hb').1, Nat.lt_of_lt_of_le (hr.dom b β n hb').2 h.size⟩, fun b x hx => ?_, hr.sep⟩, ⟨h.os, h.tape, h.output, h.size, fun β hβ _ => hb β hβ⟩, fun b β n ho hb' _ => ⟨b, n, ho, hb'⟩⟩
  · unfold Mem.more at hm
    split at hm
    · rename_i e; subst e; exact .inr (.inl hg)
    · exact .inl hm
  · unfold Mem.more at hm
    split at hm
    · rename_i e; subst e; rw [cell?_at hgb]; exact hm
    · have hc := hr.mem β o v hm
      rw [cell?_congr (hb β (cell_lt hc))]; exact hc
  · refine (hr.box b x hx).mono hle (Inj.le_refl σ) (fun β n hb' _ => hb β (hr.dom b β n hb').2) (fun β n hb' hn o => ?_)
    have := (hr.dom b β n hb').2
    unfold Mem.more
    rw [if_neg (by omega)]
    exact hn o

theorem vrows_strs {M : Mem} {g : Nat} {cur : Array Value} : ∀ (L : List (Int × List UInt8)) (o : Nat), (∀ j x, L[j]? = some x → cur[o + j]? = some (bodyV x)) → VRows (M.more g cur) g o 1 (L.map fun x => [DV.str x.2])
  | [], o, _ => .nil
  | x :: L, o, h => by
    refine .cons rfl (.cons ?_ (.str _) .nil) (vrows_strs L (o + 1) fun j y hj => ?_)
    · have := h 0 x rfl
      simpa [Mem.more] using this
    · have := h (j + 1) y (by simpa using hj)
      rw [← this]; congr 1; omega

/-- frame.Scan from outside. -/
def scanG (get : List UInt8 → Int → Option Got) : List DV → Option DV
  | [.str s, .int .i64 epoch] =>
    if s.length ≤ 1000000000 then
      (scanL get s epoch (s.length + 2) 0 1).map fun L => .tup [match L with | [] => .nils | L => .sl (L.map fun x => [DV.str x.2]) false, .int .i64 (lastTo L)]
    else none
  | _ => none

def scanX (get : List UInt8 → Int → Option Got) : Nat → Nat → CallD := fun _ _ _ args S => pureR S (scanG get args)

theorem scanX_some {get : List UInt8 → Int → Option Got} {args : List DV} {d : DV} (h : scanG get args = some d) :
    ∃ s epoch L, args = [.str s, .int .i64 epoch] ∧ s.length ≤ 1000000000 ∧ scanL get s epoch (s.length + 2) 0 1 = some L ∧ d = .tup [match L with | [] => .nils | L => .sl (L.map fun x => [DV.str x.2]) false, .int .i64 (lastTo L)] := by
  unfold scanG at h
  split at h
  · rename_i s epoch
    split at h
    · rename_i hs
      rw [Option.map_eq_some_iff] at h
      obtain ⟨L, hL, rfl⟩ := h
      exact ⟨s, epoch, L, rfl, hs, hL, rfl⟩
    · cases h
  · cases h

set_option maxRecDepth 100000 in
theorem scanX_ok {G : Nat → Option (List DV)} {get : List UInt8 → Int → Option Got} (hn : NamesOk Tryz.types) (hget : GetOk Tryz.prog 63 get) : ExtOk Tryz.types G 64 (scanX get) where
  ok ro lim args S d S' e h M σ w vs hr hG hv := by
    obtain ⟨h1, rfl, rfl⟩ := pureR_some h
    obtain ⟨s, epoch, L, rfl, hs, hL, rfl⟩ := scanX_some h1
    clear h h1
    cases hv with
    | cons h1 h2 =>
    cases h2 with
    | cons h2 h3 =>
    cases h3
    cases h1
    cases h2
    refine invokes_of hn Tryz.func64 rfl ((callsIn_wide.1 (scanF_in hget (s.length + 2) s epoch L (by omega) hL w)).mono ?_)
    rintro e w' ⟨v, rfl, hrow, hnil, hB⟩
    cases L with
    | nil =>
      obtain rfl := hnil.2 rfl
      exact ⟨_, rfl, M, σ, .tup (.cons .nils (.cons (.int _ _) .nil)), Step.below hr hB⟩
    | cons x L =>
      obtain ⟨hl, ⟨rfl, _⟩ | ⟨g, cap, cur, rfl, hg, hgb, hle, _, hsz, htake⟩⟩ := hrow
      · exact absurd (hnil.1 rfl) (by simp)
      · refine ⟨_, rfl, M.more g cur, σ, .tup (.cons ?_ (.cons (.int _ _) .nil)), Step.belowMem hr hB (by omega) hgb⟩
        have hrows : VRows (M.more g cur) g 0 1 ((x :: L).map fun x => [DV.str x.2]) := vrows_strs (x :: L) 0 fun j y hj => by
          have h2 : (cur.toList.take ((x :: L).length * 1))[j]? = some (bodyV y) := by rw [htake, List.getElem?_map, hj]; rfl
          rw [List.getElem?_take] at h2
          split at h2
          · simpa using h2
          · cases h2
        have := VR.sl (σ := σ) (ex := false) hrows (c := cap) (by simpa using hle) (by simp)
        simpa using this
  pres ro lim args S d S' e h := by rw [(pureR_some h).2.1]; exact Pres.refl _ _ _
  kinds ro lim args S d S' e h := by
    have := kind_pureR h
    obtain ⟨_, _, rfl⟩ := pureR_some h
    exact ⟨this, trivial, trivial⟩
end Go.Dv
