/- The probe 'awake' of law 12. -/
import Derived.Test.YtjojemebfojpnaaGreatDoorBhAw0
import Derived.Test.YtjojemebfojpnaaGreatDoorBhAw1
import Derived.Test.YtjojemebfojpnaaGreatDoorBhAw2
import Derived.Test.YtjojemebfojpnaaGreatDoorBhAw3
import Derived.Test.YtjojemebfojpnaaGreatDoorBhAw4
import Derived.Test.YtjojemebfojpnaaGreatDoorBhAw5
import Derived.Test.YtjojemebfojpnaaGreatDoorBhAw6
set_option linter.unusedVariables false
set_option maxRecDepth 100000
namespace Go.Dv.A
open Go Go.Proofs Go.Dv

theorem C7_2 {k ro lim : Nat} {args : List DV} {S : Store} (h : DV.under.underAll 0 args = true) : callD EA2 (k + 1) false ro lim 7 args S = (bodyX T G0 (cx EA2 k 0 0) false Tryz.f7 args []).bind fun p => (sealD 0 p.2 sealDepth p.1).map fun d => (d, S, .pure) :=
  callD_pure (E := EA2) (by kernel_rfl) (by kernel_rfl) (by kernel_rfl) h

theorem eqp1 : eqB T .eql 24 false true (.ref 2 0) .nilp = some (.bool false) := by kernel_rfl
theorem eqp2 : eqB T .eql 23 false true (.ref 3 0) .nilp = some (.bool false) := by kernel_rfl

theorem awake12 (ro lim : Nat) (S : Store) : callD EA2 4000 false ro lim 7 [] S = some (.bool true, S, .pure) := by
  rw [show (4000 : Nat) = 3999 + 1 from rfl, C7_2 rfl, S7_eq]
  have h0 : ((0 : Int) != 0) = false := by decide
  simp -implicitDefEqProofs only [cx_call, Aw_c0, Option.bind_some, extrD_tup, List.getElem?_cons_zero, List.getElem?_cons_succ, neB_int, h0, guardO_false', eqp1, pickD_bool, Bool.false_eq_true, if_false, condB_false, Aw_c1, eqp2, Aw_c2, Aw_c3, Aw_c4, Aw_c5, Aw_c6]
  show _ = _
  kernel_rfl
end Go.Dv.A
