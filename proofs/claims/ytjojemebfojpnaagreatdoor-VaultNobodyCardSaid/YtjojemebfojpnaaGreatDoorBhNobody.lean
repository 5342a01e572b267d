/- VaultNobody, evaluated. -/
import Derived.Test.YtjojemebfojpnaaGreatDoorBhAwake12
set_option linter.unusedVariables false
set_option maxRecDepth 100000
namespace Go.Dv.A
open Go Go.Proofs Go.Dv

def trueG : List DV → Option DV
  | [] => some (.bool true)
  | _ => none

theorem awakeX_ok : ExtOk T G0 7 (fun _ _ _ args S => pureR S (trueG args)) := ExtOk.of_call envA2 fun args d h => by
  cases args with
  | nil => simp only [trueG, Option.some.injEq] at h; subst h; exact ⟨4000, fun ro lim S => awake12 ro lim S⟩
  | cons a l => cases h

noncomputable def EA3 : Env := { EA2 with ext := fun f => if f = 7 then some (fun _ _ _ args S => pureR S (trueG args)) else EA2.ext f }

theorem envA3 : EnvOk EA3 where
  mixed := envA0.mixed
  names := namesA
  ext f g h := by
    simp only [EA3] at h
    split at h
    · rename_i e; injection h with h; subst e; subst h; exact awakeX_ok
    · exact envA2.ext f g h

theorem C3_3 {k ro lim : Nat} {args : List DV} {S : Store} (h : DV.under.underAll 0 args = true) : callD EA3 (k + 1) false ro lim 3 args S = (bodyX T G0 (cx EA3 k 0 0) false Tryz.f3 args []).bind fun p => (sealD 0 p.2 sealDepth p.1).map fun d => (d, S, .pure) :=
  callD_pure (E := EA3) (by kernel_rfl) (by kernel_rfl) (by kernel_rfl) h

theorem nobody (s : List UInt8) (n : Int) : callD EA3 4000 false 0 0 3 [.str s, .int .i64 n] [] = some (.bool true, [], .pure) := by
  rw [show (4000 : Nat) = 3999 + 1 from rfl, C3_3 rfl, S3_eq]
  simp -implicitDefEqProofs only [lenD_str und_9, Option.bind_some, binD_gtr]
  cases h : decide ((s.length : Int) > 3100)
  · simp -implicitDefEqProofs only [condB_false]
    show _ = _
    kernel_rfl
  · simp -implicitDefEqProofs only [condB_true]
    show _ = _
    kernel_rfl
end Go.Dv.A
