/- The environments at the seat a. -/
import Derived.Test.YtjojemebfojpnaaGreatDoorBhCrc
import Derived.Test.YtjojemebfojpnaaGreatDoorBhScan
set_option linter.unusedVariables false
set_option maxRecDepth 100000
namespace Go.Dv
open Go Go.Proofs

/-- A function given from outside that a contract tells. -/
theorem ExtOk.of_call {E : Env} (hE : EnvOk E) {f : FuncId} {g : List DV → Option DV} (h : ∀ args d, g args = some d → ∃ k, ∀ ro lim S, callD E k false ro lim f args S = some (d, S, .pure)) :
    ExtOk E.P E.G f (fun _ _ _ args S => pureR S (g args)) where
  ok ro lim args S d S' e hg := by
    obtain ⟨h1, rfl, rfl⟩ := pureR_some hg
    obtain ⟨k, hk⟩ := h args d h1
    exact (callD_sound hE k ro lim).1 f args _ d _ _ (hk ro lim _)
  pres ro lim args S d S' e hg := by rw [(pureR_some hg).2.1]; exact Pres.refl _ _ _
  kinds ro lim args S d S' e hg := by
    have := kind_pureR hg
    obtain ⟨_, _, rfl⟩ := pureR_some hg
    exact ⟨this, trivial, trivial⟩

theorem namesOk_of {P : Types} (h : P.prog.funcs.toList.all (fun fn => !(fn.body.isSome && fn.name == "runtime.NumGoroutine")) = true) : NamesOk P := by
  intro f fn hf hb
  have hm : fn ∈ P.prog.funcs.toList := Array.mem_toList_iff.2 (Array.mem_of_getElem? hf)
  have := List.all_eq_true.1 h fn hm
  simp only [hb, Bool.true_and, Bool.not_eq_true'] at this
  exact this

namespace A
theorem namesA : NamesOk T := namesOk_of (by kernel_rfl)

theorem envA0 : EnvOk EA0 where
  mixed := by kernel_rfl
  names := namesA
  ext f g h := by
    simp only [EA0] at h
    split at h
    · rename_i e; injection h with h; subst e; subst h; exact checkX_ok namesA Tryz.checks
    · split at h
      · rename_i e; injection h with h; subst e; subst h
        exact noZeroX_ok (fn := Tryz.f111) (t := 74) (ps := #[3]) Tryz.func111 (by kernel_rfl) (by kernel_rfl) (by kernel_rfl) (by kernel_rfl) (by kernel_rfl)
      · cases h

def crcG : List DV → Option DV
  | [.int .u32 (.ofNat n), .str s] => if n < 4294967296 ∧ s.length ≤ 4611686018427387904 then some (.int .u32 (crcOn n s)) else none
  | _ => none

theorem crcX_ok : ExtOk T G0 109 (fun _ _ _ args S => pureR S (crcG args)) := ExtOk.of_call envA0 fun args d h => by
  unfold crcG at h
  split at h
  · rename_i n s
    split at h
    · rename_i hc
      injection h with h; subst h
      exact ⟨s.length + 102, fun ro lim S => on_ok s.length n s ro lim S hc.1 (Nat.le_refl _) hc.2⟩
    · cases h
  · cases h

noncomputable def EA1 : Env := { EA0 with ext := fun f => if f = 109 then some (fun _ _ _ args S => pureR S (crcG args)) else EA0.ext f }

theorem envA1 : EnvOk EA1 where
  mixed := envA0.mixed
  names := namesA
  ext f g h := by
    simp only [EA1] at h
    split at h
    · rename_i e; injection h with h; subst e; subst h; exact crcX_ok
    · exact envA0.ext f g h

/-- frame.Get, evaluated. -/
noncomputable def getA (s : List UInt8) (a : Int) : Option Got :=
  match callD EA1 4000 false 0 0 63 [.str s, .int .i64 a] [] with
  | some (.tup [.agg [.int .i64 ep, .int .i64 sq, .str body], .int .i64 to, .int .i64 e], _, _) => some ⟨ep, sq, body, to, e⟩
  | _ => none

theorem getA_ok : GetOk Tryz.prog 63 getA := by
  intro s a r h W
  unfold getA at h
  split at h
  · rename_i ep sq body to e S' ef hc
    injection h with h; subst h
    refine (callD_calls envA1 (by kernel_rfl) hc (rel_start (M := fun _ _ => none) (fun _ _ _ h => by cases h)) (fun g cs h => by cases h) (.cons (.str _) (.cons (.int _ _) .nil))).mono ?_
    rintro en w' ⟨v, M', σ', rfl, hr, hst⟩
    refine ⟨?_, below_of_keeps hst.keeps⟩
    cases hr with
    | tup hr =>
    cases hr with
    | cons h1 hr =>
    cases hr with
    | cons h2 hr =>
    cases hr with
    | cons h3 hr =>
    cases hr
    cases h2
    cases h3
    cases h1 with
    | agg h1 =>
    cases h1 with
    | cons g1 h1 =>
    cases h1 with
    | cons g2 h1 =>
    cases h1 with
    | cons g3 h1 =>
    cases h1
    cases g1
    cases g2
    cases g3
    rfl
  · cases h

noncomputable def EA2 : Env := { EA1 with ext := fun f => if f = 64 then some (scanX getA) else EA1.ext f }

theorem envA2 : EnvOk EA2 where
  mixed := envA0.mixed
  names := namesA
  ext f g h := by
    simp only [EA2] at h
    split at h
    · rename_i e; injection h with h; subst e; subst h; exact scanX_ok namesA getA_ok
    · exact envA1.ext f g h
end A
end Go.Dv
