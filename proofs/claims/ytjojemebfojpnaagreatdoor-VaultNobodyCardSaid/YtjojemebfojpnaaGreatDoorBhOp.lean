/- Every operation: what the evaluator says of it, the machine does. -/
import Derived.Test.YtjojemebfojpnaaGreatDoorBhStr
set_option linter.unusedVariables false
set_option linter.unusedSimpArgs false
namespace Go.Dv
open Go

/-- Calling a function comes to what is said. -/
def Invokes (P : Types) (f : FuncId) (vs : Array Value) (w : World) (post : Value → World → Prop) : Prop :=
  ∀ (o : Oper) (a : Act) (next : Act → World → Prop) (Q : Exit → Act → World → Prop), (∀ v w', post v w' → next (a.put o.dst v) w') → o.upon P.prog a next Q ((callFunc f vs).run P.prog w)

def GOk (G : Nat → Option (List DV)) (M : Mem) : Prop := ∀ g cs, G g = some cs → VCells M g 0 cs

theorem GOk.mono {G : Nat → Option (List DV)} {M M' : Mem} (h : GOk G M) (hM : M.le M') : GOk G M' := fun g cs hg => (h g cs hg).mono hM

/-- What a call's evaluation says, calling comes to. -/
def CallOk (P : Types) (G : Nat → Option (List DV)) (call : CallD) : Prop :=
  ∀ f args S d S' e, call f args S = some (d, S', e) → ∀ M σ w vs, Rel M σ S w → GOk G M → VRs M σ args vs →
    Invokes P f vs.toArray w fun v w' => ∃ M' σ', VR M' σ' d v ∧ Step M σ S w M' σ' S' w'

section
variable {P : Types} {G : Nat → Option (List DV)} {call : CallD} {M : Mem} {σ : Inj} {S : Store} {w : World}

theorem opdD_sound {sl : List DV} {a : Act} (hG : GOk G M) (hf : ∀ t, VR M σ (sl.getD t .undef) (a.tmps.getD t undef)) (x : Operand) : VR M σ (opdD G sl x) (a.eval x) := by
  cases x with
  | tmp t => exact hf t
  | const v =>
    simp only [opdD, Act.eval]
    cases h : zdv v with
    | none => exact .undef _
    | some d => exact zdv_vr h
  | global g =>
    simp only [opdD, Act.eval]
    cases h : G g with
    | none => exact .undef _
    | some cs => exact .look (hG g cs h)
  | func f => exact .fn .nil .nil

theorem opds_sound {ρ : Operand → DV} {a : Act} (h : ∀ x, VR M σ (ρ x) (a.eval x)) : ∀ (l : List Operand), VRs M σ (l.map ρ) (l.map a.eval)
  | [] => .nil
  | x :: l => .cons (h x) (opds_sound h l)

theorem parts_sound {ρ : Operand → DV} {a : Act} (h : ∀ x, VR M σ (ρ x) (a.eval x)) : ∀ (l : List (Nat × Operand)), Parts M σ (l.map fun p => (p.1, ρ p.2)) (l.map fun (i, x) => (i, a.eval x))
  | [] => .nil
  | p :: l => .cons (h p.2) (parts_sound h l)

theorem opt_sound {ρ : Operand → DV} {a : Act} (h : ∀ x, VR M σ (ρ x) (a.eval x)) : ∀ (l : Option Operand), OVR M σ (l.map ρ) (l.map a.eval)
  | none => .none
  | some x => .some (h x)

theorem foldD_sound {f : DV → DV → Option DV} {g : Value → Value → Sem Value} (hfg : ∀ x y z vx vy, VR M σ x vx → VR M σ y vy → f x y = some z → ∃ v, (∀ w, (g vx vy).run P.prog w = .ok v w) ∧ VR M σ z v) :
    ∀ {ys : List DV} {x z : DV} {vx : Value} {vys : List Value}, VR M σ x vx → VRs M σ ys vys → foldD f x ys = some z → ∃ v, (∀ w, (vys.foldlM g vx).run P.prog w = .ok v w) ∧ VR M σ z v
  | _, x, z, vx, _, hx, .nil, h => by simp [foldD] at h; subst h; exact ⟨vx, fun w => rfl, hx⟩
  | _, x, z, vx, _, hx, .cons h1 h2, h => by
    unfold foldD at h
    split at h
    · rename_i y hy
      obtain ⟨v, r, hv⟩ := hfg _ _ _ _ _ hx h1 hy
      obtain ⟨u, r', hu⟩ := foldD_sound hfg hv h2 h
      exact ⟨u, fun w => by simp [List.foldlM_cons, r, r'], hu⟩
    · cases h

theorem pureR_some {S : Store} {x : Option DV} {d : DV} {S' : Store} {e : Eff} (h : pureR S x = some (d, S', e)) : x = some d ∧ S' = S ∧ e = .pure := by
  cases x <;> simp [pureR] at h
  exact ⟨by simp [h.1], h.2.1.symm, h.2.2.symm⟩
theorem readR_some {b : Nat} {S : Store} {x : Option DV} {d : DV} {S' : Store} {e : Eff} (h : readR b S x = some (d, S', e)) : x = some d ∧ S' = S ∧ e = .read b := by
  cases x <;> simp [readR] at h
  exact ⟨by simp [h.1], h.2.1.symm, h.2.2.symm⟩
theorem effR_some {x : Option (DV × Store)} {d : DV} {S' : Store} {e : Eff} (h : effR x = some (d, S', e)) : x = some (d, S') ∧ e = .eff := by
  unfold effR at h
  split at h
  · injection h with h; injection h with h1 h2; injection h2 with h2 h3; subst h1 h2 h3; exact ⟨rfl, rfl⟩
  · cases h
theorem growR_some {x : Option (DV × Store)} {d : DV} {S' : Store} {e : Eff} (h : growR x = some (d, S', e)) : x = some (d, S') ∧ e = .grow := by
  unfold growR at h
  split at h
  · injection h with h; injection h with h1 h2; injection h2 with h2 h3; subst h1 h2 h3; exact ⟨rfl, rfl⟩
  · cases h
theorem writeR_some {x : Option (Nat × Store)} {d : DV} {S' : Store} {e : Eff} (h : writeR x = some (d, S', e)) : ∃ b, x = some (b, S') ∧ d = .tup [] ∧ e = .write b := by
  unfold writeR at h
  split at h
  · rename_i b S0
    injection h with h; injection h with h1 h2; injection h2 with h2 h3; subst h1 h2 h3; exact ⟨b, rfl, rfl, rfl⟩
  · cases h
theorem unitR_some {x : Option Store} {d : DV} {S' : Store} {e : Eff} (h : unitR x = some (d, S', e)) : x = some S' ∧ d = .tup [] ∧ e = .eff := by
  cases x <;> simp [unitR] at h
  obtain ⟨rfl, rfl, rfl⟩ := h; exact ⟨rfl, rfl, rfl⟩

theorem nilD_sound {x d : DV} {v : Value} (hx : VR M σ x v) (h : nilD x = some d) : d = x ∧ (match v with
      | .pointer none | .nilIface | .nilFunc | .func (.method _) _ _ => False | _ => True) := by
  cases hx <;> simp [nilD] at h <;> exact ⟨h.symm, trivial⟩

/-- An operation whose run is known. -/
theorem wp_value {o : Oper} {a : Act} {next : Act → World → Prop} {Q : Exit → Act → World → Prop} {v : Value} {w' : World} (hr : (execOp a.eval o).run P.prog w = .ok (.value v) w') (h : next (a.put o.dst v) w') : o.wp P.prog a w next Q := by
  unfold Oper.wp; rw [hr]; exact h
theorem wp_skipOp {o : Oper} {a : Act} {next : Act → World → Prop} {Q : Exit → Act → World → Prop} {w' : World} (hr : (execOp a.eval o).run P.prog w = .ok .skip w') (h : next (a.put o.dst undef) w') : o.wp P.prog a w next Q := by
  unfold Oper.wp; rw [hr]; exact h

theorem VR.bool_eq {b : Bool} {v : Value} (h : VR M σ (.bool b) v) : v = .bool b := by cases h; rfl
theorem VR.int_eq {k : IntKind} {n : Int} {v : Value} (h : VR M σ (.int k n) v) : v = .int k n := by cases h; rfl

theorem nilD_run {x d : DV} {v : Value} {o : Oper} {xo : Operand} {a : Act} (hx : VR M σ x v) (h : nilD x = some d) (he : a.eval xo = v) (ho : o.op = .nilCheck xo) : (execOp a.eval o).run P.prog w = .ok (.value v) w := by
  unfold execOp
  rw [ho]
  simp only [he]
  cases hx <;> simp [nilD] at h <;> rfl

theorem undef_vr : VR M σ (.tup []) undef := .tup .nil

theorem builtin_sound {ro lim : Nat} {b : Builtin} {at_ : Array TypeId} {ty : TypeId} {consts : Array Bool} {args : List DV} {vs : List Value} {d : DV} {S' : Store} {e : Eff} (h : Rel M σ S w) (ha : VRs M σ args vs)
    (hb : builtinD P ro lim b at_ args S = some (d, S', e)) : ∃ u σ' w', (builtin b at_ ty consts vs.toArray).run P.prog w = .ok (.value u) w' ∧ VR M σ' d u ∧ Step M σ S w M σ' S' w' := by
  unfold builtinD at hb
  split at hb
  · rename_i x
    cases ha with
    | cons h1 h2 =>
    cases h2
    split at hb
    · rename_i t ht
      obtain ⟨u, r1, r2, rfl⟩ := lenD_sound (ty := ty) ht h h1 hb
      exact ⟨u, σ, w, by simp [builtin, r1], r2, Step.refl h⟩
    · cases hb
  · rename_i s x
    cases ha with
    | cons h1 h2 =>
    cases h2 with
    | cons h2 h3 =>
    cases h3
    obtain ⟨u, σ', w', r1, r2, r3⟩ := appendD_sound (ty := ty) h h1 h2 hb
    exact ⟨u, σ', w', by simp [builtin, r1], r2, r3⟩
  · rename_i dst s
    cases ha with
    | cons h1 h2 =>
    cases h2 with
    | cons h2 h3 =>
    cases h3
    obtain ⟨u, σ', w', r1, r2, r3⟩ := copyD_sound (ty := ty) h h1 h2 hb
    exact ⟨u, σ', w', by simp [builtin, r1], r2, r3⟩
  · rename_i m k
    cases ha with
    | cons h1 h2 =>
    cases h2 with
    | cons h2 h3 =>
    cases h3
    split at hb
    · rename_i t ht
      obtain ⟨u, w', r1, r2, r3⟩ := deleteD_sound (ty := ty) ht h h1 h2 hb
      exact ⟨u, σ, w', by simp [builtin, r1], r2, r3⟩
    · cases hb
  · rename_i m
    cases ha with
    | cons h1 h2 =>
    cases h2
    split at hb
    · rename_i t ht
      obtain ⟨u, w', r1, r2, r3⟩ := clearD_sound (ty := ty) ht h h1 hb
      exact ⟨u, σ, w', by simp [builtin, r1], r2, r3⟩
    · cases hb
  · rename_i x rest
    have hX := pureR_some hb
    clear hb
    obtain ⟨hb, rfl, rfl⟩ := hX
    cases ha with
    | cons h1 h2 =>
    obtain ⟨u, r1, r2⟩ := foldD_sound (P := P) (g := Builtin.min2) (fun x y z vx vy hx hy hz => by
      unfold min2D at hz
      split at hz
      · cases hx; cases hy; injection hz with hz; subst hz; exact ⟨_, fun w => rfl, .int _ _⟩
      · cases hz) h1 h2 hb
    exact ⟨u, σ, w, by simp [builtin, Builtin.min_, r1], r2, Step.refl h⟩
  · rename_i x rest
    have hX := pureR_some hb
    clear hb
    obtain ⟨hb, rfl, rfl⟩ := hX
    cases ha with
    | cons h1 h2 =>
    obtain ⟨u, r1, r2⟩ := foldD_sound (P := P) (g := Builtin.max2) (fun x y z vx vy hx hy hz => by
      unfold max2D at hz
      split at hz
      · cases hx; cases hy; injection hz with hz; subst hz; exact ⟨_, fun w => rfl, .int _ _⟩
      · cases hz) h1 h2 hb
    exact ⟨u, σ, w, by simp [builtin, Builtin.max_, r1], r2, Step.refl h⟩
  · rename_i x
    cases ha with
    | cons h1 h2 =>
    cases h2
    obtain ⟨u, r1, r2, rfl⟩ := dataD_sound (P := P) (ts := at_) (ty := ty) h h1 hb
    exact ⟨u, σ, w, by simp [builtin, r1], r2, Step.refl h⟩
  · rename_i x
    cases ha with
    | cons h1 h2 =>
    cases h2
    split at hb
    · rename_i t ht
      have hX := pureR_some hb
      clear hb
      obtain ⟨hb, rfl, rfl⟩ := hX
      obtain ⟨u, r1, r2⟩ := capD_sound (ty := ty) ht h1 hb
      exact ⟨u, σ, w, by simp [builtin, r1], r2, Step.refl h⟩
    · cases hb
  · rename_i p n
    cases ha with
    | cons h1 h2 =>
    cases h2 with
    | cons h2 h3 =>
    cases h3
    obtain ⟨u, w', r1, r2, r3⟩ := unstrD_sound (ty := ty) h h1 h2 hb
    exact ⟨u, σ, w', by simp [builtin, r1], r2, r3⟩
  · cases hb

theorem opD_sound {ro lim : Nat} {sl : List DV} {a : Act} {o : Oper} {d : DV} {S' : Store} {e : Eff} (h : Rel M σ S w) (hG : GOk G M) (hcall : CallOk P G call)
    (hρ : ∀ x, VR M σ (opdD G sl x) (a.eval x)) (ho : opD P G call ro lim sl o.op S = some (d, S', e)) {next : Act → World → Prop} {Q : Exit → Act → World → Prop}
    (hn : ∀ M' σ' v w', VR M' σ' d v → Step M σ S w M' σ' S' w' → next (a.put o.dst v) w') : o.wp P.prog a w next Q := by
  obtain ⟨dst, op, type, pos, after, guard⟩ := o
  simp only at ho hn
  cases op <;> simp only [opD, reduceCtorEq] at ho
  case move x =>
    have hX := pureR_some ho
    clear ho
    obtain ⟨ho, rfl, rfl⟩ := hX
    simp only [Option.some.injEq] at ho; subst ho
    exact wp_value (by rfl) (hn M σ _ w (hρ x) (Step.refl h))
  case assign x =>
    have hX := pureR_some ho
    clear ho
    obtain ⟨ho, rfl, rfl⟩ := hX
    simp only [Option.some.injEq] at ho; subst ho
    exact wp_value (by rfl) (hn M σ _ w (hρ x) (Step.refl h))
  case pick c x y =>
    split at ho
    · rename_i t ht
      have hX := pureR_some ho
      clear ho
      obtain ⟨ho, rfl, rfl⟩ := hX
      simp only [Option.some.injEq] at ho; subst ho
      have hc := hρ c
      rw [ht] at hc
      have he : a.eval c = .bool t := hc.bool_eq
      refine wp_value (v := if t then a.eval x else a.eval y) (by simp [execOp, he, asBool]) (hn M σ _ w ?_ (Step.refl h))
      cases t
      · exact hρ y
      · exact hρ x
    · cases ho
  case alloc elem =>
    split at ho
    · rename_i z hz
      have hX := growR_some ho
      clear ho
      obtain ⟨ho, rfl⟩ := hX
      obtain ⟨vz, r1, r2⟩ := run_zeroD M σ hz
      obtain ⟨u, σ', w', q1, q2, q3⟩ := boxD_sound (t := elem) h r2 ho
      have q1' : (Instr.alloc elem true (.tuple #[])).run P.prog w = .ok u w' := by simpa [Instr.alloc, Instr.box, r1] using q1
      exact wp_value (by simp [execOp, q1']) (hn M σ' u w' q2 q3)
    · cases ho
  case box t x =>
    have hX := growR_some ho
    clear ho
    obtain ⟨ho, rfl⟩ := hX
    obtain ⟨u, σ', w', q1, q2, q3⟩ := boxD_sound (P := P) (t := t) h (hρ x) ho
    exact wp_value (by simp [execOp, q1]) (hn M σ' u w' q2 q3)
  case build t parts =>
    have hX := pureR_some ho
    clear ho
    obtain ⟨ho, rfl, rfl⟩ := hX
    obtain ⟨v, r1, r2⟩ := buildD_sound (vs := parts.map fun (i, x) => (i, a.eval x)) (by simpa using parts_sound hρ parts.toList) ho
    exact wp_value (by simp [execOp, r1]) (hn M σ v w r2 (Step.refl h))
  case buildSlice t len parts =>
    obtain ⟨u, M', σ', w', q1, q2, q3⟩ := buildSliceD_sound (vs := parts.map fun (i, x) => (i, a.eval x)) h (by simpa using parts_sound hρ parts.toList) ho
    exact wp_value (by simp [execOp, q1]) (hn M' σ' u w' q2 q3)
  case load t x =>
    split at ho
    · rename_i agg n hagg hsz
      have hl : loadD agg n S (opdD G sl x) = some d ∧ S' = S := by
        unfold loadR at ho
        split at ho
        · exact ⟨(readR_some ho).1, (readR_some ho).2.1⟩
        · exact ⟨(pureR_some ho).1, (pureR_some ho).2.1⟩
      obtain ⟨hl, rfl⟩ := hl
      obtain ⟨u, r1, r2⟩ := loadD_sound h hagg hsz (hρ x) hl
      exact wp_value (by simp [execOp, r1]) (hn M σ u w r2 (Step.refl h))
    · cases ho
  case store t x y =>
    split at ho
    · rename_i n hsz
      obtain ⟨bw, ho2, rfl, rfl⟩ := writeR_some ho
      obtain ⟨w', r1, r2⟩ := storeD_sound h hsz (hρ x) (hρ y) ho2
      exact wp_skipOp (by simp [execOp, r1]) (hn M σ undef w' undef_vr r2)
    · cases ho
  case nilCheck x =>
    have hX := pureR_some ho
    clear ho
    obtain ⟨ho, rfl, rfl⟩ := hX
    have hx := hρ x
    obtain ⟨e, _⟩ := nilD_sound hx ho
    refine wp_value (v := a.eval x) (nilD_run hx ho rfl rfl) (hn M σ _ w ?_ (Step.refl h))
    rw [e]; exact hx
  case binOp op t x y yt =>
    split at ho
    · rename_i hfree
      have hX := pureR_some ho
      clear ho
      obtain ⟨ho, rfl, rfl⟩ := hX
      obtain ⟨v, r1, r2⟩ := binD_sound (hρ x) (hρ y) ho
      have hg := eqFree_sound (hρ x) (hρ y) hfree
      exact wp_value (by simp [execOp, hg, r1]) (hn M σ v w r2 (Step.refl h))
    · cases ho
  case unOp op t x =>
    have hX := pureR_some ho
    clear ho
    obtain ⟨ho, rfl, rfl⟩ := hX
    obtain ⟨v, r1, r2⟩ := unD_sound (P := P) (hρ x) ho
    exact wp_value (by simp [execOp, r1]) (hn M σ v w r2 (Step.refl h))
  case convert src dst x =>
    obtain ⟨u, σ', w', q1, q2, q3⟩ := convD_sound h (hρ x) ho
    exact wp_value (by simp [execOp, q1]) (hn M σ' u w' q2 q3)
  case makeInterface t x =>
    have hX := pureR_some ho
    clear ho
    obtain ⟨ho, rfl, rfl⟩ := hX
    obtain ⟨v, r1, r2⟩ := ifaceD_sound (hρ x) ho
    exact wp_value (by simp [execOp, r1]) (hn M σ v w r2 (Step.refl h))
  case makeFunc fn first captured =>
    have hX := pureR_some ho
    clear ho
    obtain ⟨ho, rfl, rfl⟩ := hX
    simp only [Option.some.injEq] at ho; subst ho
    refine wp_value (v := .func fn (first.map a.eval) (captured.map a.eval)) (by simp [execOp, Instr.makeFunc]) (hn M σ _ w ?_ (Step.refl h))
    have := VR.fn (f := fn) (opds_sound hρ first.toList) (opds_sound hρ captured.toList)
    rwa [show (first.toList.map a.eval).toArray = first.map a.eval by apply Array.ext'; simp, show (captured.toList.map a.eval).toArray = captured.map a.eval by apply Array.ext'; simp] at this
  case makeMap t r =>
    have hnew := Rel.pushStep h h.newMap
    cases r with
    | none =>
      simp only [Option.map_none] at ho
      have hX := growR_some ho
      clear ho
      obtain ⟨ho, rfl⟩ := hX
      simp only [Option.some.injEq, Prod.mk.injEq] at ho; obtain ⟨rfl, rfl⟩ := ho
      exact wp_value (v := .map (some w.heap.size)) (w' := pushW w (.map #[] 0)) (by simp [execOp, Instr.makeMap, pushW]) (hn M _ _ _ (.mref (Inj.add_same _ _ _)) hnew)
    | some x =>
      simp only [Option.map_some] at ho
      split at ho
      · rename_i hx; cases hx
      · rename_i k n hx
        injection hx with hx
        split at ho
        · rename_i kt et hu
          have hX := growR_some ho
          clear ho
          obtain ⟨ho, rfl⟩ := hX
          simp only [Option.some.injEq, Prod.mk.injEq] at ho; obtain ⟨rfl, rfl⟩ := ho
          have hxv := hρ x
          rw [hx] at hxv
          have he : a.eval x = .int k n := hxv.int_eq
          exact wp_value (v := .map (some w.heap.size)) (w' := pushW w (.map #[] 0)) (by simp [execOp, Instr.makeMap, he, run_underlyingD hu, asInt, asIntOf, pushW]) (hn M _ _ _ (.mref (Inj.add_same _ _ _)) hnew)
        · cases ho
      · cases ho
  case makeSlice t l c =>
    have hX := growR_some ho
    clear ho
    obtain ⟨ho, rfl⟩ := hX
    obtain ⟨u, σ', w', q1, q2, q3⟩ := makeSliceD_sound h (hρ l) (hρ c) ho
    exact wp_value (by simp [execOp, q1]) (hn M σ' u w' q2 q3)
  case slice t x lo hi mx =>
    have hX := pureR_some ho
    clear ho
    obtain ⟨ho, rfl, rfl⟩ := hX
    obtain ⟨v, r1, r2⟩ := sliceD_sound (hρ x) (opt_sound hρ lo) (opt_sound hρ hi) (opt_sound hρ mx) ho
    exact wp_value (by simp [execOp, r1]) (hn M σ v w r2 (Step.refl h))
  case fieldAddr t x f =>
    have hX := pureR_some ho
    clear ho
    obtain ⟨ho, rfl, rfl⟩ := hX
    obtain ⟨v, r1, r2⟩ := fieldAddrD_sound (hρ x) ho
    exact wp_value (by simp [execOp, r1]) (hn M σ v w r2 (Step.refl h))
  case field t x f =>
    have hX := pureR_some ho
    clear ho
    obtain ⟨ho, rfl, rfl⟩ := hX
    obtain ⟨v, r1, r2⟩ := fieldD_sound (hρ x) ho
    exact wp_value (by simp [execOp, r1]) (hn M σ v w r2 (Step.refl h))
  case indexAddr t x i =>
    have hX := pureR_some ho
    clear ho
    obtain ⟨ho, rfl, rfl⟩ := hX
    obtain ⟨v, r1, r2⟩ := indexAddrD_sound (hρ x) (hρ i) ho
    exact wp_value (by simp [execOp, r1]) (hn M σ v w r2 (Step.refl h))
  case index t x i =>
    have hX := pureR_some ho
    clear ho
    obtain ⟨ho, rfl, rfl⟩ := hX
    obtain ⟨v, r1, r2⟩ := indexD_sound (hρ x) (hρ i) ho
    exact wp_value (by simp [execOp, r1]) (hn M σ v w r2 (Step.refl h))
  case lookup t x i ok =>
    obtain ⟨u, r1, r2, rfl⟩ := lookupD_sound h (hρ x) (hρ i) ho
    exact wp_value (by simp [execOp, r1]) (hn M σ u w r2 (Step.refl h))
  case mapUpdate t m k x =>
    obtain ⟨w', r1, rfl, r2⟩ := updateD_sound h (hρ m) (hρ k) (hρ x) ho
    exact wp_skipOp (by simp [execOp, r1]) (hn M σ undef w' undef_vr r2)
  case mapEntry t m k =>
    obtain ⟨u, w', r1, r2, r3⟩ := entryD_sound h (hρ m) (hρ k) ho
    exact wp_value (by simp [execOp, r1]) (hn M σ u w' r2 r3)
  case entryStore t m s x =>
    obtain ⟨w', r1, rfl, r2⟩ := entryStoreD_sound (P := P) (t := t) h (hρ m) (hρ s) (hρ x) ho
    exact wp_skipOp (by simp [execOp, r1]) (hn M σ undef w' undef_vr r2)
  case typeAssert x xt asserted ok =>
    have hX := pureR_some ho
    clear ho
    obtain ⟨ho, rfl, rfl⟩ := hX
    obtain ⟨v, r1, r2⟩ := assertD_sound (xt := xt) (hρ x) ho
    exact wp_value (by simp [execOp, r1]) (hn M σ v w r2 (Step.refl h))
  case extract t ix =>
    split at ho
    · rename_i vs ht
      have hX := pureR_some ho
      clear ho
      obtain ⟨ho, rfl, rfl⟩ := hX
      have hv := hρ t
      rw [ht] at hv
      generalize he : a.eval t = v at hv
      cases hv with
      | tup hvs =>
      obtain ⟨u, hu, hr⟩ := hvs.get ho
      exact wp_value (v := u) (by simp [execOp, he, Instr.extract, hu]) (hn M σ u w hr (Step.refl h))
    · cases ho
  case call c =>
    split at ho
    · rename_i b hb
      obtain ⟨u, σ', w', q1, q2, q3⟩ := builtin_sound (ty := type) (consts := c.args.map fun | .const _ => true | _ => false) h (opds_sound hρ c.args.toList) ho
      have harr : (c.args.toList.map a.eval).toArray = c.args.map a.eval := by apply Array.ext'; simp
      rw [harr] at q1
      exact wp_value (by simp only [execOp, resolve, hb, pure_bind, invoke]; exact q1) (hn M σ' u w' q2 q3)
    · rename_i f hf
      cases ht : targetD (opdD G sl f) (c.args.toList.map (opdD G sl)) with
      | none => simp [ht] at ho
      | some p =>
      obtain ⟨g, args⟩ := p
      simp only [ht] at ho
      unfold targetD at ht
      split at ht
      · rename_i g' first captured hfn
        injection ht with ht; injection ht with ht1 ht2; subst ht1 ht2
        have hv := hρ f
        rw [hfn] at hv
        generalize he : a.eval f = v at hv
        cases hv with
        | fn h1 h2 =>
        rename_i va vb
        have hargs := VRs.append (VRs.append h2 (opds_sound hρ c.args.toList)) h1
        have hinv := hcall _ _ _ _ _ _ ho M σ w _ h hG hargs
        unfold Oper.wp
        have hrun : (execOp a.eval { dst, op := .call c, type, pos, after, guard }).run P.prog w = (callFunc g' (va ++ (c.args.toList.map a.eval ++ vb)).toArray).run P.prog w := by
          simp only [execOp, resolve, hf, he, Deferred.ofValue, pure_bind, invoke]
          congr 2
          apply Array.ext'; simp
        rw [hrun]
        refine hinv _ a next Q fun v w' hp => ?_
        obtain ⟨M', σ', hv, hst⟩ := hp
        exact hn M' σ' v w' hv hst
      · cases ht
    · cases ho
end
end Go.Dv
