/- What every step keeps, told of stores alone. -/
import Derived.Test.YtjojemebfojpnaaGreatDoorBhCode
set_option linter.unusedVariables false
set_option linter.unusedSimpArgs false
namespace Go.Dv
open Go

def Box.under (n : Nat) : Box → Prop
  | .cells cs _ => DV.under.underAll n cs = true
  | .map es _ => ∀ k v born, (k, v, born) ∈ es → k.under n = true ∧ v.under n = true
  | _ => True

def Closed (L : Nat) (S : Store) : Prop := ∀ b x, b < L → S[b]? = some x → x.under L

structure Pres (ro lim : Nat) (S S' : Store) : Prop where
  len : S.length ≤ S'.length
  same : ∀ b, b < ro → b < S.length → S'[b]? = S[b]?
  closed : ∀ L, L ≤ lim → L ≤ S.length → Closed L S → Closed L S'

theorem Pres.refl (ro lim : Nat) (S : Store) : Pres ro lim S S := ⟨Nat.le_refl _, fun _ _ _ => rfl, fun _ _ _ h => h⟩

theorem Pres.trans {ro lim : Nat} {A B C : Store} (h : Pres ro lim A B) (g : Pres ro lim B C) : Pres ro lim A C :=
  ⟨Nat.le_trans h.len g.len, fun b hb hl => (g.same b hb (Nat.lt_of_lt_of_le hl h.len)).trans (h.same b hb hl), fun L hL hl hc => g.closed L hL (Nat.le_trans hl h.len) (h.closed L hL hl hc)⟩

theorem Pres.push (ro lim : Nat) (S : Store) (x : Box) : Pres ro lim S (S ++ [x]) :=
  ⟨by simp, fun b _ hl => List.getElem?_append_left hl, fun L _ hl hc b y hb hy => hc b y hb (by rwa [List.getElem?_append_left (by omega)] at hy)⟩

theorem Pres.set {ro lim : Nat} {S : Store} {b : Nat} {x y : Box} (hs : S[b]? = some y) (hro : ro ≤ b) (hx : ∀ L, b < L → L ≤ lim → y.under L → x.under L) : Pres ro lim S (S.set b x) := by
  refine ⟨by simp, fun c hc _ => by rw [List.getElem?_set_ne (by omega)], fun L hL hl hc c z hcl hz => ?_⟩
  by_cases e : b = c
  · subst e
    rw [List.getElem?_set_self (lt_of_lget hs)] at hz; injection hz with hz; subst hz
    exact hx L hcl hL (hc b y hcl hs)
  · rw [List.getElem?_set_ne e] at hz
    exact hc c z hcl hz

theorem escOk_spec {ro lim b : Nat} {d : DV} (h : escOk ro lim b d = true) : ro ≤ b ∧ ∀ L, b < L → L ≤ lim → d.under L = true := by
  unfold escOk at h
  simp only [Bool.and_eq_true, decide_eq_true_eq, Bool.or_eq_true] at h
  refine ⟨h.1, fun L hb hL => ?_⟩
  rcases h.2 with h | h
  · exact under_mono (by omega) h
  · omega

def CallPres (call : CallD) (ro lim : Nat) : Prop := ∀ f args S d S' e, call f args S = some (d, S', e) → Pres ro lim S S'

theorem underAll_splice {n : Nat} {cs xs : List DV} {off : Nat} (h : DV.under.underAll n cs = true) (hx : DV.under.underAll n xs = true) : DV.under.underAll n (splice cs off xs) = true := by
  rw [underAll_iff] at h hx ⊢
  intro d hd
  unfold splice at hd
  simp only [List.mem_append] at hd
  rcases hd with hd | hd | hd
  · exact h d (List.mem_of_mem_take hd)
  · exact hx d hd
  · exact h d (List.mem_of_mem_drop hd)

section
variable {P : Types} {G : Nat → Option (List DV)} {call : CallD} {ro lim : Nat}

theorem storeD_pres {n : Nat} {S : Store} {a x : DV} {b : Nat} {S' : Store} (h : storeD ro lim n S a x = some (b, S')) : Pres ro lim S S' := by
  unfold storeD at h
  split at h
  · split at h
    · rename_i cs k hs
      split at h
      · rename_i xs
        split at h
        · rename_i hc
          simp only [Option.some.injEq, Prod.mk.injEq] at h; obtain ⟨rfl, rfl⟩ := h
          obtain ⟨e1, e2⟩ := escOk_spec hc.2.2.2.2
          refine Pres.set hs e1 fun L hb hL hu => ?_
          exact underAll_splice hu (by have := e2 L hb hL; simpa [DV.under] using this)
        · cases h
      · split at h
        · rename_i hc
          simp only [Option.some.injEq, Prod.mk.injEq] at h; obtain ⟨rfl, rfl⟩ := h
          obtain ⟨e1, e2⟩ := escOk_spec hc.2.2.2.2
          refine Pres.set hs e1 fun L hb hL hu => ?_
          have hu' : DV.under.underAll L cs = true := hu
          show DV.under.underAll L (cs.set _ _) = true
          rw [underAll_iff] at hu' ⊢
          intro d hd
          rcases List.mem_or_eq_of_mem_set hd with hd | rfl
          · exact hu' d hd
          · exact e2 L hb hL
        · cases h
    · cases h
  · cases h

theorem appendD_pres {at_ : Array TypeId} {s x d : DV} {S S' : Store} {e : Eff} (h : appendD P ro lim at_ s x S = some (d, S', e)) : Pres ro lim S S' := by
  have no : ∀ {q : Prop}, (none : Res) = some (d, S', e) → q := fun hh => by cases hh
  have key : ∀ {a : DV} {b : Store} {c : Eff} {p : Prop} [Decidable p] {q : Res}, (p → Pres ro lim S b) → (q = some (d, S', e) → Pres ro lim S S') → (if p then some (a, b, c) else q) = some (d, S', e) → Pres ro lim S S' := by
    intro a b c p _ q hc hq hh
    split at hh
    · rename_i hp; simp only [Option.some.injEq, Prod.mk.injEq] at hh; obtain ⟨rfl, rfl, rfl⟩ := hh; exact hc hp
    · exact hq hh
  unfold appendD at h
  split at h
  · cases h
  · split at h
    · split at h
      · split at h
        · split at h
          · exact key (fun _ => Pres.refl _ _ _) (key (fun _ => Pres.push _ _ _ _) no) h
          · refine key (fun _ => Pres.refl _ _ _) (fun h => ?_) h
            split at h
            · exact key (fun _ => Pres.push _ _ _ _) no h
            · cases h
          · refine key (fun _ => Pres.refl _ _ _) (fun h => ?_) h
            split at h
            · rename_i b off sz len cap cs k hs
              split at h
              · split at h
                · refine key (fun hp => ?_) no h
                  obtain ⟨h1, h2, h3, h4, h5⟩ := hp
                  obtain ⟨e1, e2⟩ := escOk_spec h5
                  refine Pres.set hs e1 fun L hb hL hu => ?_
                  exact underAll_splice hu (by have := e2 L hb hL; simpa [DV.under] using this)
                · split at h
                  · exact key (fun _ => Pres.push _ _ _ _) no h
                  · cases h
              · refine key (fun hp => ?_) no h
                exact (Pres.set (x := .dead) hs hp.2.2.2.2.2.2 fun L _ _ _ => trivial).trans (Pres.push _ _ _ _)
            · cases h
          · cases h
        · cases h
      · cases h
    · cases h
  · cases h

theorem copyD_pres {at_ : Array TypeId} {s x d : DV} {S S' : Store} {e : Eff} (h : copyD P ro lim at_ s x S = some (d, S', e)) : Pres ro lim S S' := by
  unfold copyD at h
  split at h
  · split at h
    · split at h
      · split at h
        · rename_i hs
          dsimp only at h
          split at h
          · simp only [Option.some.injEq, Prod.mk.injEq] at h; rw [← h.2.1]; exact Pres.refl _ _ _
          split at h
          · rename_i hp
            simp only [Option.some.injEq, Prod.mk.injEq] at h; obtain ⟨rfl, rfl, rfl⟩ := h
            obtain ⟨e1, e2⟩ := escOk_spec hp.2.2.2.2.1
            refine Pres.set hs e1 fun L hb hL hu => ?_
            exact underAll_splice hu (by have := e2 L hb hL; simpa [DV.under] using this)
          · cases h
        · cases h
      · cases h
    · cases h
  · cases h

theorem map_set_under {L i : Nat} {es : List (DV × DV × Nat)} {c c' : Nat} {k v : DV} {bo : Nat} (h : (Box.map es c).under L) (hk : k.under L = true) (hv : v.under L = true) : (Box.map (es.set i (k, v, bo)) c').under L := by
  intro k' v' b' hm
  rcases List.mem_or_eq_of_mem_set hm with hm | hm
  · exact h k' v' b' hm
  · simp only [Prod.mk.injEq] at hm; obtain ⟨rfl, rfl, rfl⟩ := hm; exact ⟨hk, hv⟩

theorem map_push_under {L : Nat} {es : List (DV × DV × Nat)} {c c' : Nat} {k v : DV} {bo : Nat} (h : (Box.map es c).under L) (hk : k.under L = true) (hv : v.under L = true) : (Box.map (es ++ [(k, v, bo)]) c').under L := by
  intro k' v' b' hm
  simp only [List.mem_append, List.mem_singleton, Prod.mk.injEq] at hm
  rcases hm with hm | ⟨rfl, rfl, rfl⟩
  · exact h k' v' b' hm
  · exact ⟨hk, hv⟩

theorem findD_mem {t : TypeId} {key : DV} : ∀ {es : List (DV × DV × Nat)} {i : Nat} {f : Found}, findD P t key es i = some (some f) → (f.key, f.val, f.born) ∈ es
  | [], i, f, h => by simp [findD] at h
  | (k, v, bo) :: es, i, f, h => by
    unfold findD at h
    split at h
    · simp only [Option.some.injEq] at h; subst h; simp
    · exact List.mem_cons_of_mem _ (findD_mem h)
    · cases h

theorem bornAt_mem {n : Int} : ∀ {es : List (DV × DV × Nat)} {i j : Nat} {k : DV} {bo : Nat}, bornAt n es i = some (j, k, bo) → ∃ v, (k, v, bo) ∈ es
  | [], i, j, k, bo, h => by simp [bornAt] at h
  | (k0, v0, b0) :: es, i, j, k, bo, h => by
    unfold bornAt at h
    split at h
    · simp only [Option.some.injEq, Prod.mk.injEq] at h; obtain ⟨rfl, rfl, rfl⟩ := h; exact ⟨v0, by simp⟩
    · obtain ⟨v, hv⟩ := bornAt_mem h; exact ⟨v, List.mem_cons_of_mem _ hv⟩

theorem pure_st {S : Store} {x : Option DV} {d : DV} {S' : Store} {e : Eff} (h : pureR S x = some (d, S', e)) : S' = S := (pureR_some h).2.1

theorem builtinD_pres {b : Builtin} {at_ : Array TypeId} {args : List DV} {S S' : Store} {d : DV} {e : Eff} (h : builtinD P ro lim b at_ args S = some (d, S', e)) : Pres ro lim S S' := by
  unfold builtinD at h
  split at h
  · split at h
    · have : S' = S := by
        unfold lenD at h
        split at h <;> first
          | (cases h; done)
          | (simp only [Option.some.injEq, Prod.mk.injEq] at h; exact h.2.1.symm)
          | (split at h
             · simp only [Option.some.injEq, Prod.mk.injEq] at h; exact h.2.1.symm
             · cases h)
      rw [this]; exact Pres.refl _ _ _
    · cases h
  · exact appendD_pres h
  · exact copyD_pres h
  · split at h
    · unfold deleteD at h
      split at h
      · split at h
        · rename_i hc
          split at h
          · rename_i es clock hs
            split at h
            · have h2 := effR_some h; clear h; obtain ⟨h, rfl⟩ := h2
              simp only [Option.some.injEq, Prod.mk.injEq] at h; obtain ⟨rfl, rfl⟩ := h
              exact Pres.set hs hc.2 fun L _ _ hu k v bo hm => hu k v bo (List.mem_of_mem_eraseIdx hm)
            · have h2 := effR_some h; clear h; obtain ⟨h, rfl⟩ := h2
              simp only [Option.some.injEq, Prod.mk.injEq] at h; obtain ⟨rfl, rfl⟩ := h
              exact Pres.refl _ _ _
            · cases h
          · cases h
        · cases h
      · cases h
    · cases h
  · split at h
    · unfold clearD at h
      split at h
      · split at h
        · rename_i hc
          split at h
          · rename_i es clock hs
            have h2 := effR_some h; clear h; obtain ⟨h, rfl⟩ := h2
            simp only [Option.some.injEq, Prod.mk.injEq] at h; obtain ⟨rfl, rfl⟩ := h
            exact Pres.set hs hc fun L _ _ hu k v bo hm => by cases hm
          · cases h
        · cases h
      · cases h
    · cases h
  · rw [pure_st h]; exact Pres.refl _ _ _
  · rw [pure_st h]; exact Pres.refl _ _ _
  · unfold dataD at h
    split at h
    · simp only [Option.some.injEq, Prod.mk.injEq] at h; rw [← h.2.1]; exact Pres.refl _ _ _
    · split at h
      · cases h
      · simp only [Option.some.injEq, Prod.mk.injEq] at h; rw [← h.2.1]; exact Pres.refl _ _ _
    · cases h
  · split at h
    · rw [pure_st h]; exact Pres.refl _ _ _
    · cases h
  · unfold unstrD at h
    split at h
    · split at h
      · simp only [Option.some.injEq, Prod.mk.injEq] at h; rw [← h.2.1]; exact Pres.refl _ _ _
      · cases h
    · split at h
      · simp only [Option.some.injEq, Prod.mk.injEq] at h; rw [← h.2.1]; exact Pres.refl _ _ _
      · split at h
        · rename_i hS
          split at h
          · rw [(readR_some h).2.1]; exact Pres.refl _ _ _
          · cases h
        · cases h
    · cases h
  · cases h

theorem opD_pres {sl : List DV} {op : Op} {S S' : Store} {d : DV} {e : Eff} (hc : CallPres call ro lim) (h : opD P G call ro lim sl op S = some (d, S', e)) : Pres ro lim S S' := by
  have pure : ∀ {x : Option DV}, pureR S x = some (d, S', e) → Pres ro lim S S' := fun hh => by rw [pure_st hh]; exact Pres.refl _ _ _
  have box : ∀ {t : TypeId} {x : DV}, growR (boxD S t x) = some (d, S', e) → Pres ro lim S S' := fun hh => by
    have h2 := growR_some hh; clear hh; obtain ⟨hh, rfl⟩ := h2
    unfold boxD at hh
    split at hh
    · simp only [Option.some.injEq, Prod.mk.injEq] at hh; obtain ⟨rfl, rfl⟩ := hh; exact Pres.push _ _ _ _
    · cases hh
  cases op <;> simp only [opD, reduceCtorEq] at h
  case pick c x y =>
    split at h
    · exact pure h
    · cases h
  case alloc el =>
    split at h
    · exact box h
    · cases h
  case box => exact box h
  case buildSlice t len parts =>
    unfold buildSliceD at h
    split at h
    · split at h
      · split at h
        · split at h
          · split at h
            · exact pure h
            · simp only [Option.some.injEq, Prod.mk.injEq] at h; obtain ⟨rfl, rfl, rfl⟩ := h; exact Pres.push _ _ _ _
          · cases h
        · cases h
      · cases h
    · cases h
  case load t a =>
    split at h
    · unfold loadR at h
      split at h
      · rw [(readR_some h).2.1]; exact Pres.refl _ _ _
      · exact pure h
    · cases h
  case store t a x =>
    split at h
    · have h2 := writeR_some h; clear h; obtain ⟨b, h, rfl, rfl⟩ := h2
      exact storeD_pres h
    · cases h
  case binOp op t x y yt =>
    split at h
    · exact pure h
    · cases h
  case convert src dst x =>
    unfold convD at h
    split at h
    · simp only [Option.some.injEq, Prod.mk.injEq] at h; rw [← h.2.1]; exact Pres.refl _ _ _
    · simp only [Option.some.injEq, Prod.mk.injEq] at h; rw [← h.2.1]; exact Pres.refl _ _ _
    · split at h
      · split at h
        · simp only [Option.some.injEq, Prod.mk.injEq] at h; obtain ⟨rfl, rfl, rfl⟩ := h; exact Pres.push _ _ _ _
        · cases h
      · cases h
    · split at h
      · split at h
        · simp only [Option.some.injEq, Prod.mk.injEq] at h; rw [← h.2.1]; exact Pres.refl _ _ _
        · split at h
          · exact pure h
          · cases h
        · split at h
          · rw [(readR_some h).2.1]; exact Pres.refl _ _ _
          · cases h
        · cases h
      · cases h
    · cases h
  case makeMap t r =>
    have mk : growR (some (.mref S.length, S ++ [.map [] 0])) = some (d, S', e) → Pres ro lim S S' := fun hh => by
      have h2 := growR_some hh; clear hh; obtain ⟨hh, rfl⟩ := h2
      simp only [Option.some.injEq, Prod.mk.injEq] at hh; obtain ⟨rfl, rfl⟩ := hh; exact Pres.push _ _ _ _
    split at h
    · exact mk h
    · split at h
      · exact mk h
      · cases h
    · cases h
  case makeSlice t l c =>
    have h2 := growR_some h; clear h; obtain ⟨h, rfl⟩ := h2
    unfold makeSliceD at h
    split at h
    · split at h
      · split at h
        · simp only [Option.some.injEq, Prod.mk.injEq] at h; obtain ⟨rfl, rfl⟩ := h; exact Pres.push _ _ _ _
        · cases h
      · cases h
    · cases h
  case lookup t m k ok =>
    unfold lookupD at h
    split at h
    · split at h
      · split at h
        · exact pure h
        · split at h
          · split at h
            · simp only [Option.some.injEq, Prod.mk.injEq] at h; rw [← h.2.1]; exact Pres.refl _ _ _
            · rw [(readR_some h).2.1]; exact Pres.refl _ _ _
            · cases h
          · cases h
        · cases h
      · cases h
    · cases h
  case mapUpdate t m k x =>
    unfold updateD at h
    split at h
    · split at h
      · rename_i hcnd
        obtain ⟨e1, e2⟩ := escOk_spec hcnd.2
        have hku := keyD_under hcnd.1
        split at h
        · rename_i es clock hs
          split at h
          · split at h
            · have h2 := unitR_some h; clear h; obtain ⟨h, rfl, rfl⟩ := h2
              injection h with h; subst h
              exact Pres.set hs e1 fun L hb hL hu => map_set_under hu (under_mono (Nat.zero_le _) hku) (e2 L hb hL)
            · cases h
          · have h2 := unitR_some h; clear h; obtain ⟨h, rfl, rfl⟩ := h2
            injection h with h; subst h
            exact Pres.set hs e1 fun L hb hL hu => map_push_under hu (under_mono (Nat.zero_le _) hku) (e2 L hb hL)
          · cases h
        · cases h
      · cases h
    · cases h
  case mapEntry t m k =>
    unfold entryD at h
    split at h
    · split at h
      · rename_i hcnd
        have hku := keyD_under hcnd.1
        split at h
        · rename_i es clock hs
          split at h
          · rename_i f hf
            split at h
            · have h2 := effR_some h; clear h; obtain ⟨h, rfl⟩ := h2
              simp only [Option.some.injEq, Prod.mk.injEq] at h; obtain ⟨rfl, rfl⟩ := h
              exact Pres.set hs hcnd.2 fun L hb hL hu => map_set_under hu (under_mono (Nat.zero_le _) hku) (hu _ _ _ (findD_mem hf)).2
            · cases h
          · have h2 := effR_some h; clear h; obtain ⟨h, rfl⟩ := h2
            rw [Option.map_eq_some_iff] at h
            obtain ⟨z, hz, h⟩ := h
            simp only [Prod.mk.injEq] at h; obtain ⟨rfl, rfl⟩ := h
            exact Pres.set hs hcnd.2 fun L hb hL hu => map_push_under hu (under_mono (Nat.zero_le _) hku) (under_mono (Nat.zero_le _) (zeroD_under hz))
          · cases h
        · cases h
      · cases h
    · cases h
  case entryStore t m s x =>
    unfold entryStoreD at h
    split at h
    · split at h
      · rename_i hesc
        obtain ⟨e1, e2⟩ := escOk_spec hesc
        split at h
        · rename_i es clock hs
          split at h
          · rename_i i k bo hbn
            have h2 := unitR_some h; clear h; obtain ⟨h, rfl, rfl⟩ := h2
            injection h with h; subst h
            obtain ⟨v, hv⟩ := bornAt_mem hbn
            exact Pres.set hs e1 fun L hb hL hu => map_set_under hu (hu _ _ _ hv).1 (e2 L hb hL)
          · cases h
        · cases h
      · cases h
    · cases h
  case extract t ix =>
    split at h
    · exact pure h
    · cases h
  case call c =>
    split at h
    · exact builtinD_pres h
    · split at h
      · exact hc _ _ _ _ _ _ h
      · cases h
    · cases h
  all_goals exact pure h

theorem stepD_pres {ops : Array Oper} {o : Oper} {fr fr' : Fr} {S S' : Store} {e : Eff} (hc : CallPres call ro lim) (h : stepD P G call ro lim ops o fr S = some (fr', S', e)) : Pres ro lim S S' := by
  unfold stepD at h
  split at h
  · rename_i d S1 e1 df hev
    simp only [Option.some.injEq, Prod.mk.injEq] at h; obtain ⟨rfl, rfl, rfl⟩ := h
    unfold evalD at hev
    split at hev
    · cases hev
    · simp only [Option.some.injEq, Prod.mk.injEq] at hev; rw [← hev.2.1]; exact Pres.refl _ _ _
    · split at hev
      · split at hev
        · split at hev
          · simp only [Option.some.injEq, Prod.mk.injEq] at hev; rw [← hev.2.1]; exact Pres.refl _ _ _
          · cases hev
        · cases hev
      · split at hev
        · rename_i hop
          simp only [Option.some.injEq, Prod.mk.injEq] at hev; obtain ⟨rfl, rfl, rfl, rfl⟩ := hev
          exact opD_pres hc hop
        · cases hev
  · cases h

theorem pres_kept (hc : CallPres call ro lim) : Kept (Pres ro lim) P G call ro lim := ⟨Pres.refl ro lim, Pres.trans, stepD_pres hc⟩

theorem codeD_kept {fuel : Nat} {T : Store → Store → Prop} (hT : Kept T P G call ro lim) {R : Type} : ∀ (c : Code) (out : List Nat) {fr : Fr} {S : Store} {K : Ex → Fr → Store → Option R} {r : R},
    codeD P G call ro lim fuel c out fr S K = some r → ∃ e fr' S', K e fr' S' = some r ∧ T S S' := by
  intro c
  induction c with
  | skip => intro out fr S K r h; exact ⟨.normal, fr, S, h, hT.refl _⟩
  | label l => intro out fr S K r h; exact ⟨.normal, fr, S, h, hT.refl _⟩
  | ret => intro out fr S K r h; exact ⟨.ret, fr, S, h, hT.refl _⟩
  | exit id => intro out fr S K r h; exact ⟨.exit id, fr, S, h, hT.refl _⟩
  | region id ops draw =>
    intro out fr S K r h
    simp only [codeD] at h
    split at h
    · rename_i fr' S' hs; exact ⟨.normal, fr', S', h, regionD_kept hT hs⟩
    · cases h
  | seq x y ihx ihy =>
    intro out fr S K r h
    simp only [codeD] at h
    obtain ⟨e, fr', S', hK, ht⟩ := ihx _ h
    cases e with
    | normal =>
      obtain ⟨e, fr'', S'', hK', ht'⟩ := ihy _ hK
      exact ⟨e, fr'', S'', hK', hT.trans ht ht'⟩
    | exit id => exact ⟨.exit id, fr', S', hK, ht⟩
    | ret => exact ⟨.ret, fr', S', hK, ht⟩
  | cond c x y ihx ihy =>
    intro out fr S K r h
    simp only [codeD] at h
    split at h
    · split at h
      · exact ihx _ h
      · exact ihy _ h
    · cases h
  | block id c ih =>
    intro out fr S K r h
    simp only [codeD] at h
    obtain ⟨e, fr', S', hK, ht⟩ := ih _ h
    cases e with
    | normal => exact ⟨.normal, fr', S', hK, ht⟩
    | ret => exact ⟨.ret, fr', S', hK, ht⟩
    | exit id' =>
      simp only at hK
      split at hK
      · exact ⟨.normal, fr', S', hK, ht⟩
      · exact ⟨.exit id', fr', S', hK, ht⟩
  | loop c ih =>
    intro out fr S K r h
    simp only [codeD] at h
    have key : ∀ n {fr1 : Fr} {S1 : Store},
        iterD n (fun again fr S => codeD P G call ro lim fuel c out fr S fun e fr' S' => match e with
          | .normal => again (forget (deadC c out) fr') S'
          | e => K e fr' S') fr1 S1 = some r → ∃ e fr' S', K e fr' S' = some r ∧ T S1 S' := by
      intro n
      induction n with
      | zero => intro fr1 S1 h1; simp [iterD] at h1
      | succ n ihn =>
        intro fr1 S1 h1
        simp only [iterD] at h1
        obtain ⟨e, fr', S', hK, ht⟩ := ih _ h1
        cases e with
        | normal =>
          obtain ⟨e, fr'', S'', hK', ht'⟩ := ihn hK
          exact ⟨e, fr'', S'', hK', hT.trans ht ht'⟩
        | exit id => exact ⟨.exit id, fr', S', hK, ht⟩
        | ret => exact ⟨.ret, fr', S', hK, ht⟩
    exact key fuel h
  | scope c ih => intro out fr S K r h; simp [codeD] at h
  | rangeFunc f ps x y _ _ => intro out fr S K r h; simp [codeD] at h
  | goto l => intro out fr S K r h; simp [codeD] at h
  | refuse s => intro out fr S K r h; simp [codeD] at h

theorem deferredD_pres {dcall : CallD} (hc : CallPres dcall ro lim) : ∀ {l : List (FuncId × List DV)} {S S' : Store}, deferredD dcall l S = some S' → Pres ro lim S S'
  | [], S, S', h => by simp only [deferredD, Option.some.injEq] at h; rw [h]; exact Pres.refl _ _ _
  | (f, args) :: l, S, S', h => by
    unfold deferredD at h
    split at h
    · rename_i hcl; exact (hc _ _ _ _ _ _ hcl).trans (deferredD_pres hc h)
    · cases h

theorem bodyD_pres {dcall : CallD} {dfr : Bool} {fuel : Nat} {fn : Func} {args : List DV} {S S' : Store} {d : DV} (hc : CallPres call ro lim) (hd : CallPres dcall ro lim)
    (h : bodyD P G call dcall dfr ro lim fuel fn args S = some (d, S')) : Pres ro lim S S' := by
  unfold bodyD at h
  split at h
  · cases h
  · obtain ⟨e, fr', S1, hK, ht⟩ := codeD_kept (pres_kept hc) _ _ h
    split at hK
    · cases hK
    · split at hK
      · cases hK
      · split at hK
        · cases hK
        · rename_i S2 hdd
          cases hr : resultsD P fn.results.toList fr'.sl S2 with
          | none => simp [hr] at hK
          | some ds =>
            simp only [hr, Option.map_some, Option.some.injEq, Prod.mk.injEq] at hK
            rw [← hK.2]
            exact ht.trans (deferredD_pres hd hdd)
end

theorem callD_pres {E : Env} (hx : ∀ f g, E.ext f = some g → ∀ ro lim args S d S' e, g ro lim f args S = some (d, S', e) → Pres ro lim S S') : ∀ (k : Nat) (dfr : Bool) (ro lim : Nat), CallPres (callD E k dfr ro lim) ro lim
  | 0, dfr, ro, lim => fun f args S d S' e h => by simp [callD] at h
  | k + 1, dfr, ro, lim => fun f args S d S' e h => by
    unfold callD at h
    split at h
    · rename_i g hg
      cases dfr with
      | true => simp at hg
      | false => exact hx f g (by simpa using hg) ro lim args S d S' e h
    · split at h
      · cases h
      · rename_i fn hfn
        split at h
        · split at h
          · split at h
            · split at h
              · simp only [Option.some.injEq, Prod.mk.injEq] at h; rw [← h.2.1]; exact Pres.refl _ _ _
              · cases h
            · cases h
          · cases h
        · split at h
          · split at h
            · simp only [Option.some.injEq, Prod.mk.injEq] at h; rw [← h.2.1]; exact Pres.refl _ _ _
            · cases h
          · cases h
        · split at h
          · rename_i d1 S1 hb
            split at h
            · simp only [Option.some.injEq, Prod.mk.injEq] at h; rw [← h.2.1]
              have hp := bodyD_pres (callD_pres hx k false ro S.length) (callD_pres hx k true ro S.length) hb
              refine ⟨by rw [List.length_take]; have := hp.len; omega, fun b hb hl => by rw [List.getElem?_take_of_lt hl]; exact hp.same b hb hl, fun L hL hl hc b x hbL hbx => ?_⟩
              rw [List.getElem?_take_of_lt (by omega)] at hbx
              exact hp.closed L hl hl hc b x hbL hbx
            · cases h
          · cases h
        · split at h
          · rename_i d1 S1 hb
            simp only [Option.some.injEq, Prod.mk.injEq] at h; rw [← h.2.1]
            exact bodyD_pres (callD_pres hx k false ro lim) (callD_pres hx k true ro lim) hb
          · cases h

theorem callD_kinds {E : Env} (hx : ∀ f g, E.ext f = some g → ∀ ro lim args S d S' e, g ro lim f args S = some (d, S', e) → KindOk S (g ro lim f args) d S' e ∧ True ∧ True) (k : Nat) (dfr : Bool) (ro lim : Nat) : CallKinds (callD E k dfr ro lim) := by
  intro f args S d S' e h
  cases k with
  | zero => simp [callD] at h
  | succ k =>
    have hh := h
    unfold callD at h
    split at h
    · rename_i g hg
      have heq : callD E (k + 1) dfr ro lim f args = g ro lim f args := by funext S2; simp only [callD, hg]
      rw [heq]
      cases dfr with
      | true => simp at hg
      | false => exact hx f g (by simpa using hg) ro lim args S d S' e h
    · rename_i hg
      split at h
      · cases h
      · rename_i fn hfn
        split at h
        · rename_i hmode
          split at h
          · rename_i hu
            split at h
            · rename_i d1 S1 hb
              split at h
              · rename_i d2 hs
                simp only [Option.some.injEq, Prod.mk.injEq] at h; obtain ⟨rfl, rfl, rfl⟩ := h
                exact ⟨⟨rfl, fun S2 => by simp only [callD, hg, hfn, hmode, if_pos hu, hb, hs]⟩, trivial, trivial⟩
              · cases h
            · cases h
          · cases h
        · split at h
          · split at h
            · simp only [Option.some.injEq, Prod.mk.injEq] at h; obtain ⟨rfl, rfl, rfl⟩ := h
              exact ⟨rfl, trivial, trivial⟩
            · cases h
          · cases h
        · split at h
          · split at h
            · simp only [Option.some.injEq, Prod.mk.injEq] at h; obtain ⟨rfl, rfl, rfl⟩ := h
              exact ⟨trivial, trivial, trivial⟩
            · cases h
          · cases h
        · split at h
          · simp only [Option.some.injEq, Prod.mk.injEq] at h; obtain ⟨rfl, rfl, rfl⟩ := h
            exact ⟨trivial, trivial, trivial⟩
          · cases h
end Go.Dv
