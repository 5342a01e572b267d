/- Calls: what the evaluator says of a call, the machine does. -/
import Derived.Test.YtjojemebfojpnaaGreatDoorBhSeal
import Derived.Defers
set_option linter.unusedVariables false
set_option linter.unusedSimpArgs false
namespace Go.Dv
open Go

def NamesOk (P : Types) : Prop := ∀ (f : Nat) fn, P.prog.funcs[f]? = some fn → fn.body.isSome = true → (fn.name == "runtime.NumGoroutine") = false

section
variable {P : Types} {G : Nat → Option (List DV)} {M : Mem} {σ : Inj} {S : Store} {w : World}

theorem run_callFunc {f : FuncId} {fn : Func} {c : Code} (hn : NamesOk P) (hf : P.prog.funcs[f]? = some fn) (hb : fn.body = some c) (args : Array Value) (w : World) :
    (callFunc f args).run P.prog w = .ok (.enter f args) w := by
  have h1 := hn f fn hf (by simp [hb])
  have h2 : ¬ fn.name = "runtime.NumGoroutine" := by simpa using h1
  simp [callFunc, hf, hb, h2]

def resOne (a : Array Value) : ResultVar → Sem Value
  | .tmp t => pure (a.getD t undef)
  | .cell p t => do loadVar t (← asAddr (a.getD p undef))

theorem resultsD_sound (h : Rel M σ S w) {a : Array Value} {sl : List DV} (hs : ∀ t, VR M σ (sl.getD t .undef) (a.getD t undef)) : ∀ (rs : List ResultVar) {ds : List DV}, resultsD P rs sl S = some ds →
    ∃ vs : List Value, (rs.mapM (resOne a)).run P.prog w = .ok vs w ∧ VRs M σ ds vs
  | [], ds, hr => by simp [resultsD] at hr; subst hr; exact ⟨[], rfl, .nil⟩
  | .tmp t :: rest, ds, hr => by
    simp only [resultsD, Option.map_eq_some_iff] at hr
    obtain ⟨ds', hr, rfl⟩ := hr
    obtain ⟨vs, hv, hr⟩ := resultsD_sound h hs rest hr
    have hu' : (resOne a (.tmp t)).run P.prog w = .ok (a.getD t undef) w := rfl
    generalize a.getD t undef = u at hu' 
    have hst : VR M σ (sl.getD t .undef) u := by
      have := hs t
      have e : u = a.getD t undef := by
        have h2 : (resOne a (.tmp t)).run P.prog w = .ok (a.getD t undef) w := rfl
        rw [hu'] at h2; injection h2
      rw [e]; exact this
    exact ⟨u :: vs, by simp [List.mapM_cons, hv, hu'], .cons hst hr⟩
  | .cell p t :: rest, ds, hr => by
    simp only [resultsD] at hr
    split at hr
    · rename_i agg n ha hn
      split at hr
      · rename_i d ds' hl hr'
        simp only [Option.some.injEq] at hr; subst hr
        obtain ⟨vs, hv, hr⟩ := resultsD_sound h hs rest hr'
        obtain ⟨u, hu, hd⟩ := loadD_sound (P := P) h ha hn (hs p) hl
        have hu' : (resOne a (.cell p t)).run P.prog w = .ok u w := by
          have hpv := hs p
          show (asAddr (a.getD p undef) >>= fun b => loadVar t b).run P.prog w = .ok u w
          revert hu hpv
          cases hp : sl.getD p .undef <;> rw [hp] at hl <;> simp only [loadD, reduceCtorEq] at hl <;> intro hu hpv <;> generalize a.getD p undef = pv at hu hpv ⊢ <;> cases hpv <;> simpa [Instr.loadAt, Instr.sureAddr, asAddr] using hu
        exact ⟨u :: vs, by simp [List.mapM_cons, hv, hu'], .cons hd hr⟩
      · cases hr
    · cases hr

theorem resultD_sound (h : Rel M σ S w) {fn : Func} {a : Array Value} {sl : List DV} (hs : ∀ t, VR M σ (sl.getD t .undef) (a.getD t undef)) {ds : List DV} (hr : resultsD P fn.results.toList sl S = some ds) :
    ∃ v, (results fn a).run P.prog w = .ok v w ∧ VR M σ (resultD ds) v := by
  obtain ⟨vs, hv, hr⟩ := resultsD_sound h hs _ hr
  refine ⟨if h : vs.toArray.size = 1 then vs.toArray[0] else .tuple vs.toArray, ?_, ?_⟩
  · have : results fn a = (do
        let vs ← fn.results.mapM (resOne a)
        pure (if h : vs.size = 1 then vs[0] else .tuple vs) : Sem Value) := rfl
    rw [this, Array.mapM_eq_mapM_toList]
    simp [hv]
  · cases hr with
    | nil => exact .tup .nil
    | cons h1 h2 => cases h2 with
      | nil => simpa [resultD] using h1
      | cons h2 h3 => simpa [resultD] using VR.tup (.cons h1 (.cons h2 h3))

/-- What a call comes to. -/
def Post (M : Mem) (σ : Inj) (S : Store) (w : World) (d : DV) (S' : Store) (e : Ending) (w' : World) : Prop :=
  ∃ v M' σ', e = .returned v ∧ VR M' σ' d v ∧ Step M σ S w M' σ' S' w'

/-- What the evaluation of a call that was put off says, calling comes to. -/
def DeferOk (P : Types) (G : Nat → Option (List DV)) (call : CallD) : Prop :=
  ∀ f args S d S' e, call f args S = some (d, S', e) → ∀ M σ w vs u, Rel M σ S w → GOk G M → VRs M σ args vs →
    (callFunc f vs.toArray).run P.prog w = .ok (.enter f vs.toArray) w ∧ CallsD P.prog f vs.toArray u w fun e u' w' => u' = u ∧ Post M σ S w d S' e w'

theorem leavesD {dcall : CallD} (hd : DeferOk P G dcall) {fn : Func} {tmps : Array Value} {R : Ending → World → Prop} : ∀ {l : List (FuncId × List DV)} {ds : List Deferred} {M : Mem} {σ : Inj} {S S' : Store} {w : World},
    deferredD dcall l S = some S' → Rel M σ S w → GOk G M → Defs M σ l ds →
    (∀ M' σ' w', Step M σ S w M' σ' S' w' → ∃ v, (results fn tmps).run P.prog w' = .ok v w' ∧ R (.returned v) w') → Leaves P.prog fn tmps R ds .returning w := by
  intro l
  induction l with
  | nil =>
    intro ds M σ S S' w h hr hG hds hR
    simp only [deferredD, Option.some.injEq] at h; subst h
    cases hds
    exact hR M σ w (Step.refl hr)
  | cons p l ih =>
    intro ds M σ S S' w h hr hG hds hR
    cases hds with
    | @cons f args cap dargs _ ds hv hds =>
      unfold deferredD at h
      split at h
      · rename_i d S1 e1 hcall
        obtain ⟨hrun, hc⟩ := hd f args S d S1 e1 hcall M σ w _ .returning hr hG hv
        have heq : (dargs.toList ++ cap.toList).toArray = dargs ++ cap := by simp
        rw [heq] at hrun hc
        refine leaves_cons (by simp) (f := f) (args := dargs ++ cap) (by simpa [invoke] using hrun) (hc.mono ?_)
        rintro e u' w' ⟨rfl, v, M', σ', rfl, _, hst⟩
        show Leaves P.prog fn tmps R ds (settle .returning) w'
        exact ih h hst.rel (hG.mono hst.mem) (hds.mono hst.mem hst.inj) fun M'' σ'' w'' hst' => hR M'' σ'' w'' (hst.trans hst')
      · cases h

theorem slots_start {args : List DV} {vs : List Value} (h : VRs M σ args vs) (n : Nat) : FrR M σ { sl := args ++ List.replicate (n - args.length) (.tup []), df := [] } { tmps := vs.toArray ++ Array.replicate (n - vs.toArray.size) undef, defers := [] } := by
  have hl := h.length
  refine ⟨fun t => ?_, by simp [hl], .nil⟩
  simp only [List.getD, Array.getD_eq_getD_getElem?]
  by_cases ht : t < args.length
  · rw [List.getElem?_append_left ht, Array.getElem?_append_left (by simp; omega)]
    obtain ⟨v, hv, hr⟩ := h.get (List.getElem?_eq_getElem ht)
    rw [List.getElem?_eq_getElem ht]
    simpa [hv] using hr
  · rw [List.getElem?_append_right (by omega), Array.getElem?_append_right (by simp; omega)]
    simp only [List.getElem?_replicate, Array.getElem?_replicate, List.size_toArray, hl]
    split
    · exact .tup .nil
    · exact .undef _

section body
variable {call dcall : CallD} {ro lim fuel : Nat} {fn : Func} {c : Code} {args : List DV} {vs : List Value} {d : DV} {S' : Store}

theorem bodyD_wpD (hm : P.prog.follows .mixedOrders = true) (hk : CallKinds call) (hcall : CallOk P G call) (hd : DeferOk P G dcall) (hb : fn.body = some c)
    (hr : Rel M σ S w) (hG : GOk G M) (hv : VRs M σ args vs) (h : bodyD P G call dcall false ro lim fuel fn args S = some (d, S')) :
    c.wp P.prog (bodyPostD P.prog fn (Post M σ S w d S')) { tmps := vs.toArray ++ Array.replicate (fn.ntmps - vs.toArray.size) undef, defers := [] } w := by
  unfold bodyD at h
  simp only [hb] at h
  refine codeD_sound (T := fun _ _ => True) hm hk hcall ⟨fun _ => trivial, fun _ _ => trivial, fun _ => trivial⟩ c (outsOf fn) h hr hG (slots_start hv _) ?_
  intro e fr' S1 M1 σ1 a1 w1 hK hst _ hf
  have main : (match deferredD dcall fr'.df S1 with
      | none => none
      | some S'' => (resultsD P fn.results.toList fr'.sl S'').map fun ds => (resultD ds, S'')) = some (d, S') → Leaves P.prog fn a1.tmps (Post M σ S w d S') a1.defers .returning w1 := by
    intro hK
    split at hK
    · cases hK
    · rename_i S2 hdd
      rw [Option.map_eq_some_iff] at hK
      obtain ⟨ds, hres, heq⟩ := hK
      simp only [Prod.mk.injEq] at heq; obtain ⟨rfl, rfl⟩ := heq
      refine leavesD hd hdd hst.rel (hG.mono hst.mem) hf.defs fun M2 σ2 w2 hst2 => ?_
      obtain ⟨v, hrun, hvr⟩ := resultD_sound (P := P) hst2.rel (hf.mono hst2.mem hst2.inj).slot hres
      exact ⟨v, hrun, v, M2, σ2, rfl, hvr, hst.trans hst2⟩
  cases e with
  | exit id => cases hK
  | normal => simp only [Bool.false_eq_true, false_and, if_false] at hK; exact main hK
  | ret => simp only [Bool.false_eq_true, false_and, if_false] at hK; exact main hK

theorem bodyD_wp (hm : P.prog.follows .mixedOrders = true) (hk : CallKinds call) (hcall : CallOk P G call) (hb : fn.body = some c)
    (hr : Rel M σ S w) (hG : GOk G M) (hv : VRs M σ args vs) (h : bodyD P G call dcall true ro lim fuel fn args S = some (d, S')) :
    c.wp P.prog (bodyPost P.prog fn (Post M σ S w d S')) { tmps := vs.toArray ++ Array.replicate (fn.ntmps - vs.toArray.size) undef, defers := [] } w := by
  unfold bodyD at h
  simp only [hb] at h
  refine codeD_sound (T := fun _ _ => True) hm hk hcall ⟨fun _ => trivial, fun _ _ => trivial, fun _ => trivial⟩ c (outsOf fn) h hr hG (slots_start hv _) ?_
  intro e fr' S1 M1 σ1 a1 w1 hK hst _ hf
  have main : (if fr'.df.isEmpty = false then none else match deferredD dcall fr'.df S1 with
      | none => none
      | some S'' => (resultsD P fn.results.toList fr'.sl S'').map fun ds => (resultD ds, S'')) = some (d, S') → a1.defers = [] ∧ ∃ v, (results fn a1.tmps).run P.prog w1 = .ok v w1 ∧ Post M σ S w d S' (.returned v) w1 := by
    intro hK
    split at hK
    · cases hK
    · rename_i he
      have hdf : fr'.df = [] := by cases hh : fr'.df <;> simp_all
      have hds := hf.defs
      rw [hdf] at hds hK
      simp only [deferredD, Option.map_eq_some_iff] at hK
      obtain ⟨ds, hres, heq⟩ := hK
      simp only [Prod.mk.injEq] at heq; obtain ⟨rfl, rfl⟩ := heq
      refine ⟨by generalize a1.defers = x at hds; cases hds; rfl, ?_⟩
      obtain ⟨v, hrun, hvr⟩ := resultD_sound (P := P) hst.rel hf.slot hres
      exact ⟨v, hrun, v, M1, σ1, rfl, hvr, hst⟩
  cases e with
  | exit id => cases hK
  | normal => simp only [true_and] at hK; exact main hK
  | ret => simp only [true_and] at hK; exact main hK
end body

/-- What a function given from outside must do. -/
structure ExtOk (P : Types) (G : Nat → Option (List DV)) (f : FuncId) (g : Nat → Nat → CallD) : Prop where
  ok : ∀ ro lim args S d S' e, g ro lim f args S = some (d, S', e) → ∀ M σ w vs, Rel M σ S w → GOk G M → VRs M σ args vs →
    Invokes P f vs.toArray w fun v w' => ∃ M' σ', VR M' σ' d v ∧ Step M σ S w M' σ' S' w'
  pres : ∀ ro lim args S d S' e, g ro lim f args S = some (d, S', e) → Pres ro lim S S'
  kinds : ∀ ro lim args S d S' e, g ro lim f args S = some (d, S', e) → KindOk S (g ro lim f args) d S' e ∧ True ∧ True

structure EnvOk (E : Env) : Prop where
  mixed : E.P.prog.follows .mixedOrders = true
  names : NamesOk E.P
  ext : ∀ f g, E.ext f = some g → ExtOk E.P E.G f g

theorem invokes_of {f : FuncId} {fn : Func} {c : Code} (hn : NamesOk P) (hf : P.prog.funcs[f]? = some fn) (hb : fn.body = some c) {args : Array Value} {post : Value → World → Prop}
    (h : Calls P.prog f args w fun e w' => ∃ v, e = .returned v ∧ post v w') : Invokes P f args w post := by
  intro o a next Q hnext
  rw [run_callFunc hn hf hb, Oper.upon_enter]
  refine h.mono ?_
  rintro e w' ⟨v, rfl, hp⟩
  exact hnext v w' hp

theorem rel_nil (h : Rel M σ S w) : Rel M noInj [] w :=
  ⟨h.mem, fun b β n hb => by simp [noInj] at hb, fun b x hb => by simp at hb, fun b b' β n n' ho => by rcases ho with ⟨_, _, h, _⟩ | ⟨_, _, h⟩ | ⟨_, _, h⟩ <;> simp at h⟩

/-- The three ways a call's body stands to the caller's store. -/
theorem callD_cases {E : Env} (hE : EnvOk E) {k : Nat} {dfr : Bool} {ro lim : Nat} {f : FuncId} {args : List DV} {S S' : Store} {d : DV} {e : Eff} {fn : Func} (hg : (if dfr then none else E.ext f) = none) (hfn : E.P.func f = some fn)
    (h : callD E (k + 1) dfr ro lim f args S = some (d, S', e)) {M : Mem} {σ : Inj} {w : World} {vs : List Value} (hr : Rel M σ S w) (hG : GOk E.G M) (hv : VRs M σ args vs) :
    ∃ σ0 S0 ro0 lim0 d1 S1, Rel M σ0 S0 w ∧ VRs M σ0 args vs ∧ bodyD E.P E.G (callD E k false ro0 lim0) (callD E k true ro0 lim0) dfr ro0 lim0 k fn args S0 = some (d1, S1) ∧
      ∀ e w', Post M σ0 S0 w d1 S1 e w' → Post M σ S w d S' e w' := by
  have hx : ∀ f g, E.ext f = some g → ∀ ro lim args S d S' e, g ro lim f args S = some (d, S', e) → Pres ro lim S S' := fun f g hg => (hE.ext f g hg).pres
  unfold callD at h
  simp only [hg, hfn] at h
  split at h
  · split at h
    · rename_i hu
      split at h
      · rename_i d1 S1 hb
        split at h
        · rename_i d2 hs
          simp only [Option.some.injEq, Prod.mk.injEq] at h; obtain ⟨rfl, rfl, rfl⟩ := h
          refine ⟨noInj, [], 0, 0, d1, S1, rel_nil hr, hv.pure hu _, hb, ?_⟩
          rintro e w' ⟨v, M', σ', rfl, hvr, hst⟩
          refine ⟨v, M'.lay 0 σ' S1 w', σ, rfl, ?_, hst.away hr⟩
          have := sealD_sound (n := 0) hst.rel _ hvr hs
          rw [Inj.cut_zero] at this
          exact this.mono (Mem.le_refl _) (noInj_le σ)
        · cases h
      · cases h
    · cases h
  · split at h
    · rename_i d1 S1 hb
      split at h
      · rename_i d2 hs
        simp only [Option.some.injEq, Prod.mk.injEq] at h; obtain ⟨rfl, rfl, rfl⟩ := h
        refine ⟨σ, S, S.length, S.length, d1, S1, hr, hv, hb, ?_⟩
        rintro e w' ⟨v, M', σ', rfl, hvr, hst⟩
        have hp := bodyD_pres (callD_pres hx k false S.length S.length) (callD_pres hx k true S.length S.length) hb
        have hst' := hst.take hr (hp.closed S.length (Nat.le_refl _) (Nat.le_refl _) hr.closed) hp.len
        have heq : S1.take S.length = S := by
          apply List.ext_getElem?
          intro b
          rw [List.getElem?_take]
          split
          · rename_i hb; exact hp.same b hb hb
          · rename_i hb; rw [List.getElem?_eq_none (by omega)]
        rw [heq] at hst'
        exact ⟨v, _, _, rfl, sealD_sound hst.rel _ hvr hs, hst'⟩
      · cases h
    · cases h
  · split at h
    · rename_i d1 S1 hb
      split at h
      · rename_i d2 hs
        simp only [Option.some.injEq, Prod.mk.injEq] at h; obtain ⟨rfl, rfl, rfl⟩ := h
        refine ⟨σ, S, ro, S.length, d1, S1, hr, hv, hb, ?_⟩
        rintro e w' ⟨v, M', σ', rfl, hvr, hst⟩
        have hp := bodyD_pres (callD_pres hx k false ro S.length) (callD_pres hx k true ro S.length) hb
        exact ⟨v, _, _, rfl, sealD_sound hst.rel _ hvr hs, hst.take hr (hp.closed S.length (Nat.le_refl _) (Nat.le_refl _) hr.closed) hp.len⟩
      · cases h
    · cases h
  · split at h
    · rename_i d1 S1 hb
      simp only [Option.some.injEq, Prod.mk.injEq] at h; obtain ⟨rfl, rfl, rfl⟩ := h
      exact ⟨σ, S, ro, lim, d1, S1, hr, hv, hb, fun e w' h => h⟩
    · cases h

theorem callD_sound {E : Env} (hE : EnvOk E) : ∀ (k ro lim : Nat), CallOk E.P E.G (callD E k false ro lim) ∧ DeferOk E.P E.G (callD E k true ro lim) := by
  intro k
  induction k with
  | zero => intro ro lim; exact ⟨fun f args S d S' e h => by simp [callD] at h, fun f args S d S' e h => by simp [callD] at h⟩
  | succ k ih =>
    have hkinds := fun ro lim => callD_kinds (E := E) (fun f g hg => (hE.ext f g hg).kinds) k false ro lim
    intro ro lim
    constructor
    · intro f args S d S' e h M σ w vs hr hG hv
      cases hg : E.ext f with
      | some g =>
        have : callD E (k + 1) false ro lim f args S = g ro lim f args S := by simp only [callD, hg]; rfl
        rw [this] at h
        exact (hE.ext f g hg).ok ro lim args S d S' e h M σ w vs hr hG hv
      | none =>
        have hg' : (if false then none else E.ext f) = none := by simp [hg]
        cases hfn : E.P.func f with
        | none => unfold callD at h; simp [hg, hfn] at h
        | some fn =>
          obtain ⟨σ0, S0, ro0, lim0, d1, S1, hr0, hv0, hb, hpost⟩ := callD_cases hE hg' hfn h hr hG hv
          cases hbody : fn.body with
          | none => simp [bodyD, hbody] at hb
          | some c =>
            have hc := calls_of_wp_defers (E.P.fok _ _ hfn) hbody (bodyD_wpD hE.mixed (hkinds ro0 lim0) (ih ro0 lim0).1 (ih ro0 lim0).2 hbody hr0 hG hv0 hb)
            refine invokes_of hE.names (E.P.fok _ _ hfn) hbody (hc.mono fun e w' hp => ?_)
            obtain ⟨v, M', σ', rfl, hvr, hst⟩ := hpost e w' hp
            exact ⟨v, rfl, M', σ', hvr, hst⟩
    · intro f args S d S' e h M σ w vs u hr hG hv
      have hg' : (if true then none else E.ext f) = none := by simp
      cases hfn : E.P.func f with
      | none => unfold callD at h; simp [hfn] at h
      | some fn =>
        obtain ⟨σ0, S0, ro0, lim0, d1, S1, hr0, hv0, hb, hpost⟩ := callD_cases hE hg' hfn h hr hG hv
        cases hbody : fn.body with
        | none => simp [bodyD, hbody] at hb
        | some c =>
          refine ⟨run_callFunc hE.names (E.P.fok _ _ hfn) hbody _ _, ?_⟩
          have hc := callsD_of_wp (u := u) (E.P.fok _ _ hfn) hbody (bodyD_wp hE.mixed (hkinds ro0 lim0) (ih ro0 lim0).1 hbody hr0 hG hv0 hb)
          refine hc.mono fun e u' w' ⟨hu, hp⟩ => ⟨hu, hpost e w' hp⟩

/-- The same, of a call at the top. -/
theorem callD_calls {E : Env} (hE : EnvOk E) {k : Nat} {ro lim : Nat} {f : FuncId} {args : List DV} {S S' : Store} {d : DV} {e : Eff} (hx : E.ext f = none)
    (h : callD E k false ro lim f args S = some (d, S', e)) {M : Mem} {σ : Inj} {w : World} {vs : List Value} (hr : Rel M σ S w) (hG : GOk E.G M) (hv : VRs M σ args vs) :
    Calls E.P.prog f vs.toArray w (Post M σ S w d S') := by
  cases k with
  | zero => simp [callD] at h
  | succ k =>
    have hg' : (if false then none else E.ext f) = none := by simp [hx]
    cases hfn : E.P.func f with
    | none => unfold callD at h; simp [hx, hfn] at h
    | some fn =>
      obtain ⟨σ0, S0, ro0, lim0, d1, S1, hr0, hv0, hb, hpost⟩ := callD_cases hE hg' hfn h hr hG hv
      cases hbody : fn.body with
      | none => simp [bodyD, hbody] at hb
      | some c =>
        exact (calls_of_wp_defers (E.P.fok _ _ hfn) hbody (bodyD_wpD hE.mixed (callD_kinds (E := E) (fun f g hg => (hE.ext f g hg).kinds) k false ro0 lim0) (callD_sound hE k ro0 lim0).1 (callD_sound hE k ro0 lim0).2 hbody hr0 hG hv0 hb)).mono hpost
end
end Go.Dv
