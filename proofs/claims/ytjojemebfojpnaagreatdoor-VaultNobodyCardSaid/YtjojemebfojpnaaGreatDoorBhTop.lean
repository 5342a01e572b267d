/- A call at the top, on data: what the evaluator says of it, the machine does, and all that was there before is as it was. -/
import Derived.Test.YtjojemebfojpnaaGreatDoorBhCall
import Derived.Below
set_option linter.unusedVariables false
namespace Go.Dv
open Go Go.RowKit

theorem rel_start {M : Mem} {w : World} (h : ∀ β o v, M β o = some v → w.cell? ⟨β, o, none⟩ = some v) : Rel M noInj [] w :=
  ⟨h, fun b β n hb => by simp [noInj] at hb, fun b x hb => by simp at hb, fun b b' β n n' ho => by rcases ho with ⟨_, _, h, _⟩ | ⟨_, _, h⟩ | ⟨_, _, h⟩ <;> simp at h⟩

theorem below_of_keeps {σ : Inj} {w w' : World} (h : Keeps σ [] w w') : Below w.heap.size w w' :=
  ⟨h.os, h.tape, h.output, h.size, fun k hk => h.block k hk fun b n ho => by rcases ho with ⟨_, _, h, _⟩ | ⟨_, _, h⟩ | ⟨_, _, h⟩ <;> simp at h⟩

/-- A law's call: it returns true, and all that was there is as it was. -/
theorem law_calls {E : Env} (hE : EnvOk E) {k : Nat} {f : FuncId} {args : List DV} {S' : Store} {e : Eff} (hx : E.ext f = none)
    (h : callD E k false 0 0 f args [] = some (.bool true, S', e)) {M : Mem} {w : World} {vs : List Value} (hM : ∀ β o v, M β o = some v → w.cell? ⟨β, o, none⟩ = some v) (hG : GOk E.G M) (hv : VRs M noInj args vs) :
    Calls E.P.prog f vs.toArray w fun e w' => e = .returned (.bool true) ∧ Below w.heap.size w w' :=
  (callD_calls hE hx h (rel_start hM) hG hv).mono fun e w' ⟨v, M', σ', he, hr, hst⟩ => by
    cases hr
    exact ⟨he, below_of_keeps hst.keeps⟩

/-- A function given from outside that leaves the store alone and reads none of it. -/
theorem Step.below {M : Mem} {σ : Inj} {S : Store} {w w' : World} (hr : Rel M σ S w) (h : Below w.heap.size w w') : Step M σ S w M σ S w' := by
  have hb : ∀ β, β < w.heap.size → w'.heap[β]? = w.heap[β]? := h.block
  refine ⟨Mem.le_refl M, fun _ _ _ h => .inl h, Inj.le_refl σ, ⟨fun β o v hm => ?_, fun b β n hb' => ⟨(hr.dom b β n hb').1, Nat.lt_of_lt_of_le (hr.dom b β n hb').2 h.size⟩, fun b x hx => ?_, hr.sep⟩, ⟨h.os, h.tape, h.output, h.size, fun β hβ _ => hb β hβ⟩, fun b β n ho hb' _ => ⟨b, n, ho, hb'⟩⟩
  · have hc := hr.mem β o v hm
    obtain ⟨c, el, fz, hc1, _⟩ := cell?_of hc
    rw [cell?_congr (hb β (lt_of_get hc1))]; exact hc
  · exact (hr.box b x hx).mono (Mem.le_refl M) (Inj.le_refl σ) (fun β n hb' _ => hb β (hr.dom b β n hb').2) (fun _ _ _ hn => hn)

/-- Such a function, out of a contract on data alone. -/
theorem ext_pure {P : Types} {G : Nat → Option (List DV)} {f : FuncId} {fn : Func} {c : Code} (hn : NamesOk P) (hf : P.prog.funcs[f]? = some fn) (hb : fn.body = some c) {g : List DV → Option DV}
    (h : ∀ args d, g args = some d → ∀ M σ vs, VRs M σ args vs → ∀ w, Calls P.prog f vs.toArray w fun e w' => ∃ v, e = .returned v ∧ VR M σ d v ∧ Below w.heap.size w w') :
    ExtOk P G f (fun _ _ _ args S => pureR S (g args)) where
  ok ro lim args S d S' e hg M σ w vs hr hG hv := by
    obtain ⟨h1, rfl, rfl⟩ := pureR_some hg
    refine invokes_of hn hf hb ((h args d h1 M σ vs hv w).mono ?_)
    rintro e w' ⟨v, rfl, hvr, hbl⟩
    exact ⟨v, rfl, M, σ, hvr, Step.below hr hbl⟩
  pres ro lim args S d S' e hg := by rw [(pureR_some hg).2.1]; exact Pres.refl _ _ _
  kinds ro lim args S d S' e hg := by
    have := kind_pureR hg
    obtain ⟨_, _, rfl⟩ := pureR_some hg
    exact ⟨this, trivial, trivial⟩
end Go.Dv
