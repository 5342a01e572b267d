/- Code: what the evaluator says of it, the machine does. -/
import Derived.Test.YtjojemebfojpnaaGreatDoorBhDraw2
set_option linter.unusedVariables false
set_option linter.unusedSimpArgs false
namespace Go.Dv
open Go

/-- What every step keeps, told of stores alone. -/
structure Kept (T : Store → Store → Prop) (P : Types) (G : Nat → Option (List DV)) (call : CallD) (ro lim : Nat) : Prop where
  refl : ∀ S, T S S
  trans : ∀ {A B C}, T A B → T B C → T A C
  step : ∀ {ops o fr S fr' S' e}, stepD P G call ro lim ops o fr S = some (fr', S', e) → T S S'

def Ex.out : Ex → Exit
  | .normal => .normal
  | .exit id => .exit id
  | .ret => .ret

theorem FrR.forget {M : Mem} {σ : Inj} {a : Act} : ∀ (l : List Nat) {fr : Fr}, FrR M σ fr a → FrR M σ (Go.Dv.forget l fr) a
  | [], fr, h => h
  | t :: l, fr, h => by
    have h1 : FrR M σ { fr with sl := fr.sl.set t .undef } a := ⟨fun j => by
      show VR M σ ((fr.sl.set t .undef).getD j .undef) _
      rw [getD_set]
      split
      · exact .undef _
      · exact h.slot j, by simpa using h.len, h.defs⟩
    exact FrR.forget l h1

section
variable {P : Types} {G : Nat → Option (List DV)} {call : CallD} {ro lim fuel : Nat} {T : Store → Store → Prop}

theorem opsD_kept (hT : Kept T P G call ro lim) {ops : Array Oper} : ∀ {l : List Oper} {fr fr' : Fr} {S S' : Store}, opsD P G call ro lim ops l fr S = some (fr', S') → T S S'
  | [], fr, fr', S, S', h => by simp only [opsD, Option.some.injEq, Prod.mk.injEq] at h; rw [h.2]; exact hT.refl _
  | o :: l, fr, fr', S, S', h => by
    unfold opsD at h
    split at h
    · rename_i f1 S1 e1 hs; exact hT.trans (hT.step hs) (opsD_kept hT h)
    · cases h

theorem drawD_kept (hT : Kept T P G call ro lim) {ops : Array Oper} {b : List Nat} : ∀ {l : List Oper} {i : Nat} {acc : List (Nat × Eff)} {fr fr' : Fr} {S S' : Store}, drawD P G call ro lim ops b i l acc fr S = some (fr', S') → T S S'
  | [], i, acc, fr, fr', S, S', h => by simp only [drawD, Option.some.injEq, Prod.mk.injEq] at h; rw [h.2]; exact hT.refl _
  | o :: l, i, acc, fr, fr', S, S', h => by
    unfold drawD at h
    split at h
    · rename_i f1 S1 e1 hs
      split at h
      · exact hT.trans (hT.step hs) (drawD_kept hT h)
      · cases h
    · cases h

theorem regionD_kept (hT : Kept T P G call ro lim) {ops : Array Oper} {draw : Bool} {fr fr' : Fr} {S S' : Store} (h : regionD P G call ro lim ops draw fr S = some (fr', S')) : T S S' := by
  unfold regionD at h
  split at h
  · split at h
    · exact drawD_kept hT h
    · cases h
  · exact opsD_kept hT h

theorem regionD_sound {ops : Array Oper} {draw : Bool} {id : Nat} {Q : Exit → Act → World → Prop} (hm : P.prog.follows .mixedOrders = true) (hk : CallKinds call) (hcall : CallOk P G call)
    {M : Mem} {σ : Inj} {S S' : Store} {w : World} {fr fr' : Fr} {a : Act} (h : Rel M σ S w) (hG : GOk G M) (hf : FrR M σ fr a) (hs : regionD P G call ro lim ops draw fr S = some (fr', S'))
    (hn : ∀ M' σ' a' w', Step M σ S w M' σ' S' w' → FrR M' σ' fr' a' → Q .normal a' w') : (Code.region id ops draw).wp P.prog Q a w := by
  unfold regionD at hs
  cases draw with
  | true =>
    simp only [if_true] at hs
    split at hs
    · rename_i hreg; exact drawD_region hm hk hcall hreg h hG hf hs hn
    · cases hs
  | false =>
    simp only [Bool.false_eq_true, if_false] at hs
    exact opsD_region hcall h hG hf hs hn

theorem codeD_sound (hm : P.prog.follows .mixedOrders = true) (hk : CallKinds call) (hcall : CallOk P G call) (hT : Kept T P G call ro lim) {R : Type} : ∀ (c : Code) (out : List Nat) {fr : Fr} {S : Store} {K : Ex → Fr → Store → Option R} {r : R},
    codeD P G call ro lim fuel c out fr S K = some r → ∀ {M : Mem} {σ : Inj} {a : Act} {w : World}, Rel M σ S w → GOk G M → FrR M σ fr a → ∀ {Q : Exit → Act → World → Prop},
    (∀ e fr' S' M' σ' a' w', K e fr' S' = some r → Step M σ S w M' σ' S' w' → T S S' → FrR M' σ' fr' a' → Q e.out a' w') → c.wp P.prog Q a w := by
  intro c
  induction c with
  | skip => intro out fr S K r h M σ a w hrel hG hf Q hn; exact wp_skip (hn .normal fr S M σ a w h (Step.refl hrel) (hT.refl _) hf)
  | label l => intro out fr S K r h M σ a w hrel hG hf Q hn; exact wp_label (hn .normal fr S M σ a w h (Step.refl hrel) (hT.refl _) hf)
  | ret => intro out fr S K r h M σ a w hrel hG hf Q hn; exact wp_ret (hn .ret fr S M σ a w h (Step.refl hrel) (hT.refl _) hf)
  | exit id => intro out fr S K r h M σ a w hrel hG hf Q hn; exact wp_exit (hn (.exit id) fr S M σ a w h (Step.refl hrel) (hT.refl _) hf)
  | region id ops draw =>
    intro out fr S K r h M σ a w hrel hG hf Q hn
    simp only [codeD] at h
    split at h
    · rename_i fr' S' hs
      exact regionD_sound hm hk hcall hrel hG hf hs fun M' σ' a' w' hst hf' => hn .normal fr' S' M' σ' a' w' h hst (regionD_kept hT hs) hf'
    · cases h
  | seq x y ihx ihy =>
    intro out fr S K r h M σ a w hrel hG hf Q hn
    simp only [codeD] at h
    refine wp_seq (ihx _ h hrel hG hf fun e fr' S' M' σ' a' w' hK hst ht hf' => ?_)
    cases e with
    | normal =>
      simp only at hK
      show y.wp P.prog Q a' w'
      exact ihy _ hK hst.rel (hG.mono hst.mem) hf' fun e fr'' S'' M'' σ'' a'' w'' hK' hst' ht' hf'' => hn e fr'' S'' M'' σ'' a'' w'' hK' (hst.trans hst') (hT.trans ht ht') hf''
    | exit id => exact hn (.exit id) fr' S' M' σ' a' w' hK hst ht hf'
    | ret => exact hn .ret fr' S' M' σ' a' w' hK hst ht hf'
  | cond c x y ihx ihy =>
    intro out fr S K r h M σ a w hrel hG hf Q hn
    simp only [codeD] at h
    split at h
    · rename_i t hc
      have hv := opdD_sound (a := a) hG hf.slot c
      rw [hc] at hv
      refine wp_cond hv.bool_eq ?_
      split at h
      · rename_i ht; rw [if_pos ht]; exact ihx _ h hrel hG hf hn
      · rename_i ht; rw [if_neg ht]; exact ihy _ h hrel hG hf hn
    · cases h
  | block id c ih =>
    intro out fr S K r h M σ a w hrel hG hf Q hn
    simp only [codeD] at h
    refine wp_block (ih _ h hrel hG hf fun e fr' S' M' σ' a' w' hK hst ht hf' => ?_)
    cases e with
    | normal => exact hn .normal fr' S' M' σ' a' w' hK hst ht hf'
    | ret => exact hn .ret fr' S' M' σ' a' w' hK hst ht hf'
    | exit id' =>
      simp only at hK
      show Exit.inBlock id Q (.exit id') a' w'
      unfold Exit.inBlock
      simp only
      split at hK
      · rename_i e; rw [if_pos e]; exact hn .normal fr' S' M' σ' a' w' hK hst ht hf'
      · rename_i e; rw [if_neg e]; exact hn (.exit id') fr' S' M' σ' a' w' hK hst ht hf'
  | loop c ih =>
    intro out fr S K r h M σ a w hrel hG hf Q hn
    simp only [codeD] at h
    refine wp_loop_rounds fuel ?_
    have key : ∀ n {fr1 : Fr} {S1 : Store} {M1 : Mem} {σ1 : Inj} {a1 : Act} {w1 : World},
        iterD n (fun again fr S => codeD P G call ro lim fuel c out fr S fun e fr' S' => match e with
          | .normal => again (forget (deadC c out) fr') S'
          | e => K e fr' S') fr1 S1 = some r → Step M σ S w M1 σ1 S1 w1 → T S S1 → FrR M1 σ1 fr1 a1 → Code.rounds P.prog c Q n a1 w1 := by
      intro n
      induction n with
      | zero => intro fr1 S1 M1 σ1 a1 w1 h1; simp [iterD] at h1
      | succ n ihn =>
        intro fr1 S1 M1 σ1 a1 w1 h1 hst ht hf1
        simp only [iterD] at h1
        rw [rounds_succ]
        refine ih _ h1 hst.rel (hG.mono hst.mem) hf1 fun e fr' S' M' σ' a' w' hK hst' ht' hf' => ?_
        cases e with
        | normal => exact ihn hK (hst.trans hst') (hT.trans ht ht') (hf'.forget _)
        | exit id => exact hn (.exit id) fr' S' M' σ' a' w' hK (hst.trans hst') (hT.trans ht ht') hf'
        | ret => exact hn .ret fr' S' M' σ' a' w' hK (hst.trans hst') (hT.trans ht ht') hf'
    exact key fuel h (Step.refl hrel) (hT.refl _) hf
  | scope c ih => intro out fr S K r h; simp [codeD] at h
  | rangeFunc f ps x y _ _ => intro out fr S K r h; simp [codeD] at h
  | goto l => intro out fr S K r h; simp [codeD] at h
  | refuse s => intro out fr S K r h; simp [codeD] at h
end
end Go.Dv
