/- What the kinds of operations say: of the evaluator alone. -/
import Derived.Test.YtjojemebfojpnaaGreatDoorBhDv
set_option linter.unusedVariables false
set_option linter.unusedSimpArgs false
namespace Go.Dv
open Go

/-- What the kind of a step says. -/
def KindOk (S : Store) (f : Store → Option (DV × Store × Eff)) (d : DV) (S' : Store) : Eff → Prop
  | .pure => S' = S ∧ ∀ S2, f S2 = some (d, S2, .pure)
  | .read b => S' = S ∧ ∀ S2, S2[b]? = S[b]? → f S2 = some (d, S2, .read b)
  | .look => S' = S
  | .write b => ∀ c, c ≠ b → S'[c]? = S[c]?
  | _ => True

def CallKinds (call : CallD) : Prop := ∀ f args S d S' e, call f args S = some (d, S', e) → KindOk S (call f args) d S' e ∧ True ∧ True

section
variable {P : Types} {G : Nat → Option (List DV)} {call : CallD}

theorem kind_pureR {x : Option DV} {S : Store} {d : DV} {S' : Store} {e : Eff} (h : pureR S x = some (d, S', e)) : KindOk S (fun S => pureR S x) d S' e := by
  cases x <;> simp [pureR] at h
  obtain ⟨rfl, rfl, rfl⟩ := h
  exact ⟨rfl, fun S2 => rfl⟩

theorem kind_growR {x : Option (DV × Store)} {f} {S : Store} {d : DV} {S' : Store} {e : Eff} (h : growR x = some (d, S', e)) : KindOk S f d S' e := by
  unfold growR at h
  split at h
  · simp only [Option.some.injEq, Prod.mk.injEq] at h; obtain ⟨rfl, rfl, rfl⟩ := h; trivial
  · cases h
theorem kind_effR {x : Option (DV × Store)} {f} {S : Store} {d : DV} {S' : Store} {e : Eff} (h : effR x = some (d, S', e)) : KindOk S f d S' e := by
  unfold effR at h
  split at h
  · simp only [Option.some.injEq, Prod.mk.injEq] at h; obtain ⟨rfl, rfl, rfl⟩ := h; trivial
  · cases h
theorem kind_unitR {x : Option Store} {f} {S : Store} {d : DV} {S' : Store} {e : Eff} (h : unitR x = some (d, S', e)) : KindOk S f d S' e := by
  unfold unitR at h
  split at h
  · simp only [Option.some.injEq, Prod.mk.injEq] at h; obtain ⟨rfl, rfl, rfl⟩ := h; trivial
  · cases h

theorem readR_st {b : Nat} {S : Store} {x : Option DV} {d : DV} {S' : Store} {e : Eff} (h : readR b S x = some (d, S', e)) : x = some d ∧ S' = S ∧ e = .read b := by
  cases x <;> simp [readR] at h
  exact ⟨by simp [h.1], h.2.1.symm, h.2.2.symm⟩

theorem dataD_kind {x d : DV} {S S' : Store} {e : Eff} (h : dataD x S = some (d, S', e)) : KindOk S (dataD x) d S' e := by
  have hh := h
  unfold dataD at h
  split at h
  · simp only [Option.some.injEq, Prod.mk.injEq] at h; obtain ⟨rfl, rfl, rfl⟩ := h; exact ⟨rfl, fun S2 => rfl⟩
  · split at h
    · cases h
    · rename_i hl
      simp only [Option.some.injEq, Prod.mk.injEq] at h; obtain ⟨rfl, rfl, rfl⟩ := h; exact ⟨rfl, fun S2 => by simp only [dataD, if_neg hl]⟩
  · cases h

theorem unstrD_kind {ts : List TypeId} {p n d : DV} {S S' : Store} {e : Eff} (h : unstrD P ts p n S = some (d, S', e)) : KindOk S (unstrD P ts p n) d S' e := by
  unfold unstrD at h
  split at h
  · split at h
    · rename_i h0
      simp only [Option.some.injEq, Prod.mk.injEq] at h; obtain ⟨rfl, rfl, rfl⟩ := h; exact ⟨rfl, fun S2 => by simp only [unstrD, if_pos h0]⟩
    · cases h
  · split at h
    · rename_i h0
      simp only [Option.some.injEq, Prod.mk.injEq] at h; obtain ⟨rfl, rfl, rfl⟩ := h; exact ⟨rfl, fun S2 => by simp only [unstrD, if_pos h0]⟩
    · rename_i h0
      split at h
      · rename_i hpt hS
        split at h
        · rename_i hc
          obtain ⟨h1, h2, h3⟩ := readR_st h
          subst h2 h3
          refine ⟨rfl, fun S2 h2 => ?_⟩
          simp only [unstrD, if_neg h0, hpt, h2, hS, if_pos hc, h1, readR]
        · cases h
      · cases h
  · cases h

theorem elemsOf_congr {size : Nat} {S S2 : Store} {b off sz len : Nat} {cap : Option Nat} (h : S2[b]? = S[b]?) : elemsOf size S2 (.msl b off sz len cap) = elemsOf size S (.msl b off sz len cap) := by
  simp only [elemsOf, h]

theorem loadR_kind {agg : Bool} {n : Nat} {S : Store} {a d : DV} {S' : Store} {e : Eff} (h : loadR agg n S a = some (d, S', e)) : KindOk S (fun S => loadR agg n S a) d S' e := by
  unfold loadR at h
  split at h
  · rename_i b off
    cases hl : loadD agg n S (.ref b off) with
    | none => simp [hl, readR] at h
    | some d' =>
      simp only [hl, readR, Option.some.injEq, Prod.mk.injEq] at h
      obtain ⟨rfl, rfl, rfl⟩ := h
      refine ⟨rfl, fun S2 h2 => ?_⟩
      have : loadD agg n S2 (.ref b off) = some d' := by rw [← hl]; simp only [loadD, h2]
      simp [loadR, readR, this]
  · rename_i hne
    have hc : ∀ S2, loadD agg n S2 a = loadD agg n S a := fun S2 => by
      cases a <;> first | rfl | exact absurd rfl (hne _ _)
    cases hl : loadD agg n S a with
    | none => simp [hl, pureR] at h
    | some d' =>
      simp only [hl, pureR, Option.some.injEq, Prod.mk.injEq] at h
      obtain ⟨rfl, rfl, rfl⟩ := h
      refine ⟨rfl, fun S2 => ?_⟩
      have := hc S2
      cases a <;> first | exact absurd rfl (hne _ _) | simp [loadR, pureR, this, hl]

theorem convD_kind {src dst : TypeId} {x d : DV} {S S' : Store} {e : Eff} (h : convD P src dst x S = some (d, S', e)) : KindOk S (convD P src dst x) d S' e := by
  have hh := h
  unfold convD at h
  split at h
  case h_1 h1 h2 =>
    simp only [Option.some.injEq, Prod.mk.injEq] at h; obtain ⟨rfl, rfl, rfl⟩ := h
    exact ⟨rfl, fun S2 => by simp [convD, h1, h2]⟩
  case h_2 h1 h2 =>
    simp only [Option.some.injEq, Prod.mk.injEq] at h; obtain ⟨rfl, rfl, rfl⟩ := h
    exact ⟨rfl, fun S2 => by simp [convD, h1, h2]⟩
  case h_3 h1 h2 =>
    split at h
    · split at h
      · simp only [Option.some.injEq, Prod.mk.injEq] at h; obtain ⟨rfl, rfl, rfl⟩ := h; trivial
      · cases h
    · cases h
  case h_4 =>
    rename_i el h1 h2 hns
    split at h
    · rename_i h3
      split at h
      · simp only [Option.some.injEq, Prod.mk.injEq] at h; obtain ⟨rfl, rfl, rfl⟩ := h
        exact ⟨rfl, fun S2 => by simp [convD, h1, h2, h3]⟩
      · split at h
        · rename_i hall
          have := kind_pureR h
          obtain ⟨rfl, rfl⟩ : S' = S ∧ e = .pure := by
            revert h; cases (byteCells _) <;> simp [pureR]
            intros; simp_all
          exact ⟨rfl, fun S2 => by simpa [convD, h1, h2, h3, hall] using this.2 S2⟩
        · cases h
      · rename_i b off sz len cap
        split at h
        · rename_i n cs hel
          cases hb : byteCells cs with
          | none => simp [hb, readR] at h
          | some bs =>
            simp only [hb, Option.map_some, readR, Option.some.injEq, Prod.mk.injEq] at h
            obtain ⟨rfl, rfl, rfl⟩ := h
            refine ⟨rfl, fun S2 h2' => ?_⟩
            simp [convD, h1, h2, h3, elemsOf_congr h2', hel, hb, readR]
        · cases h
      · cases h
    · cases h
  case h_5 => cases h

theorem lenD_kind {t : TypeId} {x d : DV} {S S' : Store} {e : Eff} (h : lenD P t x S = some (d, S', e)) : KindOk S (lenD P t x) d S' e := by
  unfold lenD at h
  split at h
  case h_2 => cases h
  case h_9 => cases h
  case h_8 k el b hu =>
    split at h
    · rename_i es clock hs
      simp only [Option.some.injEq, Prod.mk.injEq] at h; obtain ⟨rfl, rfl, rfl⟩ := h
      exact ⟨rfl, fun S2 h2 => by simp [lenD, hu, h2, hs]⟩
    · cases h
  case h_3 n el hu hne =>
    simp only [Option.some.injEq, Prod.mk.injEq] at h; obtain ⟨rfl, rfl, rfl⟩ := h
    refine ⟨rfl, fun S2 => ?_⟩
    unfold lenD
    split <;> simp_all
  all_goals
    rename_i hu
    simp only [Option.some.injEq, Prod.mk.injEq] at h; obtain ⟨rfl, rfl, rfl⟩ := h
    exact ⟨rfl, fun S2 => by simp [lenD, hu]⟩

theorem lookupD_kind {t : TypeId} {m key d : DV} {ok : Bool} {S S' : Store} {e : Eff} (h : lookupD P t m key ok S = some (d, S', e)) : KindOk S (lookupD P t m key ok) d S' e := by
  unfold lookupD at h
  split at h
  · rename_i kt et hu
    split at h
    · rename_i hkd
      split at h
      · have := kind_pureR h
        obtain ⟨rfl, rfl⟩ : S' = S ∧ e = .pure := by
          revert h; cases zeroD P et <;> simp [pureR]
          intros; simp_all
        exact ⟨rfl, fun S2 => by simpa [lookupD, hu, hkd] using this.2 S2⟩
      · rename_i b
        split at h
        · rename_i es clock hs
          split at h
          · rename_i f hf
            simp only [Option.some.injEq, Prod.mk.injEq] at h; obtain ⟨rfl, rfl, rfl⟩ := h
            exact ⟨rfl, fun S2 h2 => by simp [lookupD, hu, hkd, h2, hs, hf]⟩
          · rename_i hf
            cases hz : zeroD P et with
            | none => simp [hz, readR] at h
            | some z =>
              simp only [hz, Option.map_some, readR, Option.some.injEq, Prod.mk.injEq] at h; obtain ⟨rfl, rfl, rfl⟩ := h
              exact ⟨rfl, fun S2 h2 => by simp [lookupD, hu, hkd, h2, hs, hf, hz, readR]⟩
          · cases h
        · cases h
      · cases h
    · cases h
  · cases h

theorem appendD_kind {ro lim : Nat} {at_ : Array TypeId} {s x d : DV} {S S' : Store} {e : Eff} {f} (h : appendD P ro lim at_ s x S = some (d, S', e)) : KindOk S f d S' e := by
  have key : ∀ {a : DV} {b : Store} {c : Eff} {p : Prop} [Decidable p] {q : Res}, (c = .eff ∨ c = .look ∧ b = S) → (q = some (d, S', e) → KindOk S f d S' e) → (if p then some (a, b, c) else q) = some (d, S', e) → KindOk S f d S' e := by
    intro a b c p _ q hc hq hh
    split at hh
    · simp only [Option.some.injEq, Prod.mk.injEq] at hh; obtain ⟨rfl, rfl, rfl⟩ := hh
      rcases hc with rfl | ⟨rfl, rfl⟩
      · trivial
      · rfl
    · exact hq hh
  have no : ∀ {q : Prop}, (none : Res) = some (d, S', e) → q := fun hh => by cases hh
  unfold appendD at h
  split at h
  · cases h
  · split at h
    · split at h
      · split at h
        · split at h
          · exact key (.inr ⟨rfl, rfl⟩) (key (.inl rfl) no) h
          · refine key (.inr ⟨rfl, rfl⟩) (fun h => ?_) h
            split at h
            · exact key (.inl rfl) no h
            · cases h
          · refine key (.inr ⟨rfl, rfl⟩) (fun h => ?_) h
            split at h
            · split at h
              · split at h
                · exact key (.inl rfl) no h
                · split at h
                  · exact key (.inl rfl) no h
                  · cases h
              · exact key (.inl rfl) no h
            · cases h
          · cases h
        · cases h
      · cases h
    · cases h
  · cases h

theorem copyD_kind {ro lim : Nat} {at_ : Array TypeId} {s x d : DV} {S S' : Store} {e : Eff} {f} (h : copyD P ro lim at_ s x S = some (d, S', e)) : KindOk S f d S' e := by
  unfold copyD at h
  split at h
  · split at h
    · split at h
      · split at h
        · dsimp only at h
          split at h
          · simp only [Option.some.injEq, Prod.mk.injEq] at h; obtain ⟨rfl, rfl, rfl⟩ := h; exact rfl
          split at h
          · simp only [Option.some.injEq, Prod.mk.injEq] at h; obtain ⟨rfl, rfl, rfl⟩ := h; trivial
          · cases h
        · cases h
      · cases h
    · cases h
  · cases h

theorem eff_trivial {S : Store} {f} {d : DV} {S' : Store} {e : Eff} (h : e = .eff) : KindOk S f d S' e := by subst h; trivial

theorem opD_kind {ro lim : Nat} {sl : List DV} {op : Op} {S S' : Store} {d : DV} {e : Eff} (hc : CallKinds call) (h : opD P G call ro lim sl op S = some (d, S', e)) : KindOk S (opD P G call ro lim sl op) d S' e := by
  have hh := h
  have lift : ∀ {g : Store → Res}, (∀ S, opD P G call ro lim sl op S = g S) → KindOk S g d S' e → KindOk S (opD P G call ro lim sl op) d S' e := by
    intro g hg hk
    have : opD P G call ro lim sl op = g := funext hg
    rw [this]; exact hk
  cases op <;> simp only [opD, reduceCtorEq] at h
  case pick c x y =>
    split at h
    · rename_i t ht; exact lift (g := fun S => pureR S (some (if t = true then opdD G sl x else opdD G sl y))) (fun S => by simp only [opD, ht]) (kind_pureR h)
    · cases h
  case alloc el =>
    split at h
    · exact kind_growR h
    · cases h
  case box => exact kind_growR h
  case buildSlice t len parts =>
    unfold buildSliceD at h
    split at h
    · rename_i el hu
      split at h
      · rename_i size z hs hz
        split at h
        · rename_i hcnd
          split at h
          · rename_i cs hf
            split at h
            · rename_i hund
              exact lift (g := fun S => pureR S ((chunk size len cs).map fun rows => .sl rows true)) (fun S => by simp only [opD, buildSliceD, hu, hs, hz, if_pos hcnd, hf, if_pos hund]) (kind_pureR h)
            · simp only [Option.some.injEq, Prod.mk.injEq] at h; obtain ⟨rfl, rfl, rfl⟩ := h; trivial
          · cases h
        · cases h
      · cases h
    · cases h
  case load t a =>
    split at h
    · rename_i agg n h1 h2; exact lift (g := fun S => loadR agg n S (opdD G sl a)) (fun S => by simp only [opD, h1, h2]) (loadR_kind h)
    · cases h
  case store t a x =>
    split at h
    · rename_i n h1
      unfold writeR at h
      split at h
      · rename_i b S1 hst
        simp only [Option.some.injEq, Prod.mk.injEq] at h; obtain ⟨rfl, rfl, rfl⟩ := h
        intro c hcb
        unfold storeD at hst
        split at hst
        · split at hst
          · split at hst
            · split at hst
              · simp only [Option.some.injEq, Prod.mk.injEq] at hst; obtain ⟨rfl, rfl⟩ := hst
                rw [List.getElem?_set_ne (Ne.symm hcb)]
              · cases hst
            · split at hst
              · simp only [Option.some.injEq, Prod.mk.injEq] at hst; obtain ⟨rfl, rfl⟩ := hst
                rw [List.getElem?_set_ne (Ne.symm hcb)]
              · cases hst
          · cases hst
        · cases hst
      · cases h
    · cases h
  case binOp op t x y yt =>
    split at h
    · rename_i hf; exact lift (g := fun S => pureR S _) (fun S => by simp only [opD, if_pos hf]) (kind_pureR h)
    · cases h
  case convert => exact lift (fun S => by simp only [opD]) (convD_kind h)
  case makeMap t r =>
    split at h
    · exact kind_growR h
    · split at h
      · exact kind_growR h
      · cases h
    · cases h
  case makeSlice => exact kind_growR h
  case lookup => exact lift (fun S => by simp only [opD]) (lookupD_kind h)
  case mapUpdate t m k x =>
    unfold updateD at h
    split at h
    · split at h
      · split at h
        · split at h
          · split at h
            · exact kind_unitR h
            · cases h
          · exact kind_unitR h
          · cases h
        · cases h
      · cases h
    · cases h
  case mapEntry t m k =>
    unfold entryD at h
    split at h
    · split at h
      · split at h
        · split at h
          · split at h
            · exact kind_effR h
            · cases h
          · exact kind_effR h
          · cases h
        · cases h
      · cases h
    · cases h
  case entryStore t m s x =>
    unfold entryStoreD at h
    split at h
    · split at h
      · split at h
        · split at h
          · exact kind_unitR h
          · cases h
        · cases h
      · cases h
    · cases h
  case extract t ix =>
    split at h
    · rename_i vs ht; exact lift (g := fun S => pureR S _) (fun S => by simp only [opD, ht]) (kind_pureR h)
    · cases h
  case call c =>
    split at h
    · rename_i b hb
      have lb : ∀ {g : Store → Res}, (∀ S, builtinD P ro lim b c.argTypes (c.args.toList.map (opdD G sl)) S = g S) → KindOk S g d S' e → KindOk S (opD P G call ro lim sl (.call c)) d S' e := by
        intro g hg hk
        exact lift (fun S => by simp only [opD, hb]; exact hg S) hk
      generalize hargs : c.args.toList.map (opdD G sl) = args at h lb
      unfold builtinD at h
      split at h
      · split at h
        · rename_i t ht; exact lb (fun S => by simp only [builtinD, ht]) (lenD_kind h)
        · cases h
      · exact appendD_kind h
      · exact copyD_kind h
      · split at h
        · unfold deleteD at h
          split at h
          · split at h
            · split at h
              · split at h
                · exact kind_effR h
                · exact kind_effR h
                · cases h
              · cases h
            · cases h
          · cases h
        · cases h
      · split at h
        · unfold clearD at h
          split at h
          · split at h
            · split at h
              · exact kind_effR h
              · cases h
            · cases h
          · cases h
        · cases h
      · exact lb (fun S => by simp only [builtinD]) (kind_pureR h)
      · exact lb (fun S => by simp only [builtinD]) (kind_pureR h)
      · exact lb (fun S => by simp only [builtinD]) (dataD_kind h)
      · split at h
        · rename_i t ht
          exact lb (fun S => by simp only [builtinD, ht]) (kind_pureR h)
        · cases h
      · exact lb (fun S => by simp only [builtinD]) (unstrD_kind h)
      · cases h
    · rename_i f hf
      cases ht : targetD (opdD G sl f) (c.args.toList.map (opdD G sl)) with
      | none => simp [ht] at h
      | some p =>
        obtain ⟨g, args⟩ := p
        simp only [ht] at h
        exact lift (g := call g args) (fun S => by simp only [opD, hf, ht]) (hc _ _ _ _ _ _ h).1
    · cases h
  all_goals exact lift (g := fun S => pureR S _) (fun S => by simp only [opD]) (kind_pureR h)

/-- What the kind of an operation says. -/
def EvalKind (P : Types) (G : Nat → Option (List DV)) (call : CallD) (ro lim : Nat) (ops : Array Oper) (o : Oper) (sl : List DV) (S : Store) (d : DV) (S' : Store) (df : List (FuncId × List DV)) : Eff → Prop
  | .pure => S' = S ∧ df = [] ∧ ∀ S2, evalD P G call ro lim ops o sl S2 = some (d, S2, .pure, [])
  | .read b => S' = S ∧ df = [] ∧ ∀ S2, S2[b]? = S[b]? → evalD P G call ro lim ops o sl S2 = some (d, S2, .read b, [])
  | .look => S' = S ∧ df = []
  | .write b => (∀ c, c ≠ b → S'[c]? = S[c]?) ∧ df = []
  | .grow => df = []
  | .eff => True

theorem evalD_kind {ro lim : Nat} {ops : Array Oper} {o : Oper} {sl : List DV} {S S' : Store} {d : DV} {e : Eff} {df : List (FuncId × List DV)} (hc : CallKinds call) (h : evalD P G call ro lim ops o sl S = some (d, S', e, df)) :
    EvalKind P G call ro lim ops o sl S d S' df e := by
  unfold evalD at h
  split at h
  · cases h
  · rename_i hw
    simp only [Option.some.injEq, Prod.mk.injEq] at h; obtain ⟨rfl, rfl, rfl, rfl⟩ := h
    exact ⟨rfl, rfl, fun S2 => by simp only [evalD, hw]⟩
  · rename_i hw
    split at h
    · split at h
      · split at h
        · simp only [Option.some.injEq, Prod.mk.injEq] at h; obtain ⟨rfl, rfl, rfl, rfl⟩ := h
          trivial
        · cases h
      · cases h
    · rename_i hnd
      split at h
      · rename_i d1 S1 e1 hop
        simp only [Option.some.injEq, Prod.mk.injEq] at h; obtain ⟨rfl, rfl, rfl, rfl⟩ := h
        have hk := opD_kind hc hop
        have back : ∀ {S2 : Store} {e : Eff}, opD P G call ro lim sl o.op S2 = some (d1, S2, e) → evalD P G call ro lim ops o sl S2 = some (d1, S2, e, []) := by
          intro S2 e h2
          unfold evalD
          rw [hw]
          cases hop' : o.op <;> first
            | exact absurd hop' (hnd _)
            | (rw [hop'] at h2; simp only [h2])
        cases e1 with
        | pure => exact ⟨hk.1, rfl, fun S2 => back (hk.2 S2)⟩
        | read b => exact ⟨hk.1, rfl, fun S2 h2 => back (hk.2 S2 h2)⟩
        | look => exact ⟨hk, rfl⟩
        | write b => exact ⟨hk, rfl⟩
        | grow => rfl
        | eff => trivial
      · cases h
end
end Go.Dv
