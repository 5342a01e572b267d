/- Operations that only reckon, more: arithmetic, assertions, lengths. -/
import Derived.Test.YtjojemebfojpnaaGreatDoorBhPure2
set_option linter.unusedVariables false
set_option linter.unusedSimpArgs false
namespace Go.Dv
open Go

section
variable {P : Types} {M : Mem} {σ : Inj} {S : Store} {w : World}

theorem intD_sound {op : BinOp} {t : TypeId} {k : IntKind} {a b : Int} {d : DV} (h : intD op k a b = some d) : ∃ v, (∀ w, (binOp op t (.int k a) (.int k b)).run P.prog w = .ok v w) ∧ VR M σ d v := by
  cases op <;> simp only [intD, reduceCtorEq, Option.some.injEq] at h
  case quo =>
    split at h
    · cases h
    · rename_i hb; simp only [Option.some.injEq] at h; subst h
      exact ⟨_, fun w => by simp only [binOp, ne_eq, not_true_eq_false, if_false, Op.intDiv, hb]; rfl, .int _ _⟩
  case rem =>
    split at h
    · cases h
    · rename_i hb; simp only [Option.some.injEq] at h; subst h
      exact ⟨_, fun w => by simp only [binOp, ne_eq, not_true_eq_false, if_false, Op.intDiv, hb]; rfl, .int _ _⟩
  all_goals subst h
  all_goals first
    | exact ⟨_, fun w => by simp only [binOp, ne_eq, not_true_eq_false, if_false, Op.intArith]; rfl, .int _ _⟩
    | exact ⟨_, fun w => by simp only [binOp, ne_eq, not_true_eq_false, if_false, Op.intBits]; rfl, .int _ _⟩
    | exact ⟨_, fun w => by simp only [binOp, ne_eq, not_true_eq_false, if_false, Op.intCmp]; rfl, .bool _⟩

theorem str_append (a b : List UInt8) : (⟨a.toArray⟩ : ByteArray) ++ ⟨b.toArray⟩ = ⟨(a ++ b).toArray⟩ := by
  apply ByteArray.ext
  rw [ByteArray.data_append]
  simp

theorem strD_sound {op : BinOp} {t : TypeId} {a b : List UInt8} {d : DV} (h : strD op a b = some d) :
    ∃ v, (∀ w, (binOp op t (.string ⟨a.toArray⟩) (.string ⟨b.toArray⟩)).run P.prog w = .ok v w) ∧ VR M σ d v := by
  cases op <;> simp only [strD, reduceCtorEq, Option.some.injEq] at h
  case add =>
    split at h
    · rename_i hl; simp only [Option.some.injEq] at h; subst h
      refine ⟨.string ⟨(a ++ b).toArray⟩, fun w => ?_, .str _⟩
      have h1 : ((⟨a.toArray⟩ : ByteArray).size + (⟨b.toArray⟩ : ByteArray).size : Nat) = a.length + b.length := by simp [ByteArray.size]
      have h2 : ¬ (((a.length + b.length : Nat) : Int) > IntKind.i64.max) := by
        have : IntKind.i64.max = 9223372036854775807 := by decide
        rw [this]; omega
      simp only [binOp, Op.stringOp, h1, if_neg h2, str_append]; rfl
    · cases h
  all_goals subst h
  all_goals exact ⟨_, fun w => by simp only [binOp, Op.stringOp, str_toList]; rfl, .bool _⟩

def plainV : Value → Bool
  | .int _ _ | .string _ | .float _ _ | .complex _ _ _ => false
  | _ => true

theorem binOp_eql {t : TypeId} {x : Value} (y : Value) (hx : plainV x = true) : binOp .eql t x y = (do Pure.pure (.bool (← Op.equal t x y))) ∧ binOp .neq t x y = (do Pure.pure (.bool (!(← Op.equal t x y)))) := by
  cases x <;> first | (simp [plainV] at hx; done) | exact ⟨rfl, rfl⟩

theorem VR.plain {x : DV} {v : Value} (h : VR M σ x v) (hx : x.scalar = false) : plainV v = true := by
  cases h <;> first | rfl | (simp [DV.scalar] at hx; done)

theorem binD_sound {op : BinOp} {t : TypeId} {x y d : DV} {vx vy : Value} (hx : VR M σ x vx) (hy : VR M σ y vy) (h : binD P op t x y = some d) :
    ∃ v, (∀ w, (binOp op t vx vy).run P.prog w = .ok v w) ∧ VR M σ d v := by
  unfold binD at h
  split at h
  · rename_i k a k' b
    cases hx; cases hy
    split at h
    · rename_i hb
      simp only [Option.some.injEq] at h; subst h
      have : ¬ b < 0 := by omega
      exact ⟨_, fun w => by simp only [binOp, Op.shift, if_neg this]; rfl, .int _ _⟩
    · cases h
  · rename_i k a k' b
    cases hx; cases hy
    split at h
    · rename_i hb
      simp only [Option.some.injEq] at h; subst h
      have : ¬ b < 0 := by omega
      exact ⟨_, fun w => by simp only [binOp, Op.shift, if_neg this]; rfl, .int _ _⟩
    · cases h
  · rename_i k a k' b h1 h2
    cases hx; cases hy
    split at h
    · rename_i hk; subst hk
      exact intD_sound h
    · cases h
  · cases hx; cases hy
    exact strD_sound h
  · split at h
    · cases h
    · rename_i hsc
      cases he : eqT P eqDepth t x y with
      | none => simp [he] at h
      | some b =>
        simp only [he, Option.map_some, Option.some.injEq] at h; subst h
        have hr := eqT_sound (P := P) eqDepth Op.maxDepth (by decide) t x y vx vy b hx hy he
        exact ⟨.bool b, fun w => by rw [(binOp_eql vy (hx.plain (by simpa using hsc))).1]; simp [Op.equal, hr], .bool _⟩
  · split at h
    · cases h
    · rename_i hsc
      cases he : eqT P eqDepth t x y with
      | none => simp [he] at h
      | some b =>
        simp only [he, Option.map_some, Option.some.injEq] at h; subst h
        have hr := eqT_sound (P := P) eqDepth Op.maxDepth (by decide) t x y vx vy b hx hy he
        exact ⟨.bool !b, fun w => by rw [(binOp_eql vy (hx.plain (by simpa using hsc))).2]; simp [Op.equal, hr], .bool _⟩
  · cases h

theorem eqGuard_nil {op : BinOp} {t : TypeId} {xo yo : Operand} (h : (constD xo || constD yo) = true) (w : World) : (eqGuard op t xo yo .nilIface .nilIface).run P.prog w = .ok () w := by
  unfold eqGuard
  cases op <;> cases xo <;> cases yo <;> first | rfl | (simp [constD] at h; done)

theorem eqGuard_agg {op : BinOp} {t : TypeId} {xo yo : Operand} {a b : Array Value} (h : P.prog.eqGuardType P.prog.depth t = false) (w : World) : (eqGuard op t xo yo (.agg a) (.agg b)).run P.prog w = .ok () w := by
  unfold eqGuard
  cases op <;> simp [h]

theorem eqGuard_else {op : BinOp} {t : TypeId} {xo yo : Operand} {x y : Value} (h1 : ¬ (x = .nilIface ∧ y = .nilIface)) (h2 : ∀ a b, ¬ (x = .agg a ∧ y = .agg b)) (w : World) :
    (eqGuard op t xo yo x y).run P.prog w = .ok () w := by
  have e : ∀ o : BinOp, (o = .eql ∨ o = .neq) → (eqGuard o t xo yo x y).run P.prog w = .ok () w := by
    rintro o (rfl | rfl)
    all_goals
      cases x <;> cases y <;> first
        | rfl
        | exact absurd ⟨rfl, rfl⟩ h1
        | exact absurd ⟨rfl, rfl⟩ (h2 _ _)
  cases op <;> first | exact e _ (.inl rfl) | exact e _ (.inr rfl) | (unfold eqGuard; rfl)

theorem eqFree_sound {op : BinOp} {t : TypeId} {xo yo : Operand} {x y : DV} {vx vy : Value} (hx : VR M σ x vx) (hy : VR M σ y vy) (h : eqFree P op t (constD xo) (constD yo) x y = true) :
    ∀ w, (eqGuard op t xo yo vx vy).run P.prog w = .ok () w := by
  intro w
  by_cases hop : op = .eql ∨ op = .neq
  · have h' : eqGuardD P t (constD xo) (constD yo) x y = true := by rcases hop with rfl | rfl <;> exact h
    unfold eqGuardD at h'
    split at h'
    · cases h'
    · cases hx
      split at h'
      · cases h'
      · cases hy; exact eqGuard_nil h' w
      · rename_i g1 g2
        refine eqGuard_else ?_ (fun a b e => by cases e.1) w
        rintro ⟨_, rfl⟩
        cases hy
        · exact g1 rfl
        · exact g2 rfl
    · cases hx
      split at h'
      · cases h'
      · cases hy; exact eqGuard_agg (by simpa using h') w
      · rename_i g1 g2
        refine eqGuard_else (fun e => by cases e.1) ?_ w
        rintro a b ⟨_, rfl⟩
        cases hy
        · exact g1 rfl
        · exact g2 _ rfl
    · rename_i g1 g2 g3
      refine eqGuard_else ?_ ?_ w
      · rintro ⟨rfl, _⟩
        cases hx
        · exact g1 rfl
        · exact g2 rfl
      · rintro a b ⟨rfl, _⟩
        cases hx
        · exact g1 rfl
        · exact g3 _ rfl
  · unfold eqGuard
    cases op <;> simp_all

theorem unD_sound {op : UnOp} {x d : DV} {vx : Value} (hx : VR M σ x vx) (h : unD op x = some d) : ∃ v, (∀ w, (Op.unary op vx).run P.prog w = .ok v w) ∧ VR M σ d v := by
  unfold unD at h
  split at h
  · cases hx; simp only [Option.some.injEq] at h; subst h; exact ⟨_, fun w => rfl, .int _ _⟩
  · cases hx; simp only [Option.some.injEq] at h; subst h; exact ⟨_, fun w => rfl, .int _ _⟩
  · cases hx; simp only [Option.some.injEq] at h; subst h; exact ⟨_, fun w => rfl, .bool _⟩
  · cases h

theorem assertD_sound {x d : DV} {vx : Value} {xt asserted : TypeId} {ok : Bool} (hx : VR M σ x vx) (h : assertD P x asserted ok = some d) :
    ∃ v, (∀ w, (Instr.typeAssert vx xt asserted ok).run P.prog w = .ok v w) ∧ VR M σ d v := by
  unfold assertD at h
  split at h
  · cases h
  · rename_i u hni hu
    have zero : ∀ {z : DV}, zeroD P asserted = some z → ∃ v, (∀ w, (zeroValue asserted).run P.prog w = .ok v w) ∧ VR M σ z v := fun hz => run_zeroD M σ hz
    split at h
    · rename_i t v
      cases hx with
      | iface hv =>
      rename_i vv
      split at h
      · rename_i ht; subst ht
        simp only [Option.some.injEq] at h; subst h
        cases ok with
        | true => exact ⟨.tuple #[vv, .bool true], fun w => by cases u <;> simp_all [Instr.typeAssert, run_underlyingD hu], .tup (.cons hv (.cons (.bool true) .nil))⟩
        | false => exact ⟨vv, fun w => by cases u <;> simp_all [Instr.typeAssert, run_underlyingD hu], by simpa using hv⟩
      · rename_i ht
        split at h
        · rename_i hok; subst hok
          cases hz : zeroD P asserted with
          | none => simp [hz] at h
          | some z =>
            simp only [hz, Option.map_some, Option.some.injEq] at h; subst h
            obtain ⟨v, hr, hv'⟩ := zero hz
            exact ⟨.tuple #[v, .bool false], fun w => by cases u <;> simp_all [Instr.typeAssert, run_underlyingD hu], .tup (.cons hv' (.cons (.bool false) .nil))⟩
        · cases h
    · cases hx
      split at h
      · rename_i hok; subst hok
        cases hz : zeroD P asserted with
        | none => simp [hz] at h
        | some z =>
          simp only [hz, Option.map_some, Option.some.injEq] at h; subst h
          obtain ⟨v, hr, hv'⟩ := zero hz
          exact ⟨.tuple #[v, .bool false], fun w => by cases u <;> simp_all [Instr.typeAssert, run_underlyingD hu], .tup (.cons hv' (.cons (.bool false) .nil))⟩
      · cases h
    · cases h
  · cases h

theorem ifaceD_sound {t : TypeId} {x d : DV} {vx : Value} (hx : VR M σ x vx) (h : ifaceD P t x = some d) : ∃ v, (∀ w, (Instr.makeInterface t vx).run P.prog w = .ok v w) ∧ VR M σ d v := by
  unfold ifaceD at h
  split at h
  · cases h
  · rename_i u hni hu
    simp only [Option.some.injEq] at h; subst h
    exact ⟨.iface t vx, fun w => by cases u <;> simp_all [Instr.makeInterface, run_underlyingD hu], .iface hx⟩
  · cases h
end
end Go.Dv
