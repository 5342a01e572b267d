/- Functions given from outside, at the seat a: (*strings.Builder).copyCheck. -/
import Derived.Test.YtjojemebfojpnaaGreatDoorBhTop
import Derived.Test.YtjojemebfojpnaaGreatDoorBhTabA
import Derived.Test.YtjojemebfojpnaaGreatDoorTryzPlainB
import Derived.Lib.MakeNoZero
import Derived.Laws.Externs
set_option linter.unusedVariables false
set_option linter.unusedSimpArgs false
namespace Go.Dv
open Go Go.RowKit Go.Proofs

/-- (*strings.Builder).copyCheck: a fresh builder is marked by its own address. -/
def checkX (tB : TypeId) : Nat → Nat → CallD := fun ro lim f args S => match args with
  | [.ref b 0] => match S[b]? with
    | some (.cells [c0, c1] (.exact t)) =>
      if t = tB ∧ ro ≤ b then
        match c0 with
        | .nilp => some (.tup [], S.set b (.cells [.ref b 0, c1] (.exact t)), .eff)
        | .ref b' 0 => if b' = b then some (.tup [], S, .eff) else none
        | _ => none
      else none
    | _ => none
  | _ => none

theorem setCell_eq {w : World} {β : Nat} {c : Array Value} {el : TypeId} {fz : Nat × Nat} {v : Value} {o : Nat} (h : w.heap[β]? = some (.cells c el fz)) : w.setCell ⟨β, o, none⟩ v = setW w β (.cells (c.setIfInBounds o v) el fz) := by
  unfold World.setCell setW
  congr 1
  apply Array.ext_getElem?
  intro j
  rw [Array.getElem?_modify, Array.getElem?_setIfInBounds]
  have hlt := lt_of_get h
  by_cases e : β = j
  · subst e
    have h2 : w.heap[β] = .cells c el fz := by
      have := Array.getElem?_eq_getElem hlt
      rw [h] at this; injection this with this; exact this.symm
    simp [h, hlt, h2]
  · simp [e]

/-- What the proof asks of the program: copyCheck's two contracts. -/
structure ChecksOk (P : Program) (f : FuncId) (tB : TypeId) : Prop where
  fn : ∃ fn c, P.funcs[f]? = some fn ∧ fn.body = some c
  used : ∀ (b : Nat) (w : World), w.cell? ⟨b, 0, none⟩ = some (.pointer (some ⟨b, 0, none⟩)) → Calls P f #[.pointer (some ⟨b, 0, none⟩)] w fun e w' => e = .returned (.tuple #[]) ∧ w' = w
  fresh : ∀ (b : Nat) (w : World), w.cell? ⟨b, 0, none⟩ = some (.pointer none) → w.shape? b = some (tB, 2) → w.frozen? ⟨b, 0, none⟩ = false →
    Calls P f #[.pointer (some ⟨b, 0, none⟩)] w fun e w' => e = .returned (.tuple #[]) ∧ w' = w.setCell ⟨b, 0, none⟩ (.pointer (some ⟨b, 0, none⟩))

theorem checkX_ok {P : Types} {G : Nat → Option (List DV)} {f : FuncId} {tB : TypeId} (hn : NamesOk P) (hc : ChecksOk P.prog f tB) : ExtOk P G f (checkX tB) where
  ok ro lim args S d S' e h M σ w vs hr hG hv := by
    obtain ⟨fn, c, hf, hb⟩ := hc.fn
    unfold checkX at h
    split at h
    · rename_i b
      split at h
      · rename_i c0 c1 t hS
        split at h
        · rename_i hcond
          obtain ⟨rfl, hro⟩ := hcond
          cases hv with
          | cons h1 h2 =>
          cases h2
          cases h1 with
          | @ref _ _ β n _ hσ =>
          obtain ⟨β', c, el, fz, h1, h2, h3, h4, h5, h6, h7, h8⟩ := hr.box b _ hS
          rw [hσ] at h1; injection h1 with h1; injection h1 with h1 h1'; subst h1
          have hel := h8 t (.inl rfl)
          subst hel
          have hsz : c.size = 2 := h4 _ rfl
          obtain ⟨v0, hv0, hr0⟩ := h5 0 c0 rfl
          obtain ⟨v1, hv1, hr1⟩ := h5 1 c1 rfl
          split at h
          · simp only [Option.some.injEq, Prod.mk.injEq] at h; obtain ⟨rfl, rfl, rfl⟩ := h
            cases hr0
            have ho : Owns S b := .inl ⟨_, _, hS, by simp⟩
            have hfro : w.frozen? ⟨β, 0, none⟩ = false := by
              have := (h6 (by simp)).2 0 (by omega) (fun e => by simp [Kind.open] at e)
              simp only [World.frozen?, h2]
              simp only [Bool.and_eq_false_iff, decide_eq_false_iff_not]
              simp only [Kind.open] at this
              omega
            refine invokes_of hn hf hb ((hc.fresh β w (by rw [cell?_at h2]; exact hv0) (by simp [World.shape?, h2, hsz]) hfro).mono ?_)
            rintro e w' ⟨rfl, rfl⟩
            rw [setCell_eq h2]
            have hbox : BoxAt M σ (setW w β (.cells (c.setIfInBounds 0 (.pointer (some ⟨β, 0, none⟩))) el fz)) b (.cells [.ref b 0, c1] (.exact el)) := by
              refine ⟨β, c.setIfInBounds 0 (.pointer (some ⟨β, 0, none⟩)), el, fz, by rw [hσ]; simp [h1'], setW_same (lt_of_get h2), by simp [hsz], fun t e => by simp [hsz], fun j d hj => ?_, fun hk => ⟨(h6 (by simp)).1, fun o ho ho2 => (h6 (by simp)).2 o (by simpa using ho) (fun e => by simpa using ho2 e)⟩, fun e => by simp at e, h8⟩
              match j, hj with
              | 0, hj => simp at hj; subst hj; exact ⟨_, by simp [hsz], .ref hσ⟩
              | 1, hj => simp at hj; subst hj; exact ⟨v1, by simpa [Array.getElem?_setIfInBounds] using hv1, hr1⟩
              | j + 2, hj => simp at hj
            obtain ⟨hrel, hkeep⟩ := hr.turn ho hσ _ _ hbox
            refine ⟨.tuple #[], rfl, M, σ, .tup .nil, Mem.le_refl M, fun _ _ _ h => .inl h, Inj.le_refl σ, hrel, hkeep, fun c' γ m hoc hc hγ => ⟨c', m, ?_, hc⟩⟩
            by_cases e : c' = b
            · subst e; exact ho
            · rcases hoc with ⟨cs, k, hy, hk⟩ | ⟨es, k, hy⟩ | ⟨s, p, hy⟩ <;> rw [List.getElem?_set_ne (Ne.symm e)] at hy
              · exact .inl ⟨_, _, hy, hk⟩
              · exact .inr (.inl ⟨_, _, hy⟩)
              · exact .inr (.inr ⟨_, _, hy⟩)
          · split at h
            · rename_i b' hbb
              subst hbb
              simp only [Option.some.injEq, Prod.mk.injEq] at h; obtain ⟨rfl, rfl, rfl⟩ := h
              cases hr0 with
              | ref hσ' =>
              rw [hσ] at hσ'; injection hσ' with hσ'; injection hσ' with e1 e2; subst e1
              refine invokes_of hn hf hb ((hc.used β w (by rw [cell?_at h2]; exact hv0)).mono ?_)
              rintro e w' ⟨rfl, rfl⟩
              exact ⟨.tuple #[], rfl, M, σ, .tup .nil, Step.refl hr⟩
            · cases h
          · cases h
        · cases h
      · cases h
    · cases h
  pres ro lim args S d S' e h := by
    unfold checkX at h
    split at h
    · split at h
      · rename_i hS
        split at h
        · rename_i hcond
          split at h
          · simp only [Option.some.injEq, Prod.mk.injEq] at h; obtain ⟨rfl, rfl, rfl⟩ := h
            refine Pres.set hS hcond.2 fun L hb hL hu => ?_
            simp only [Box.under, DV.under.underAll, DV.under, Bool.and_eq_true, decide_eq_true_eq] at hu ⊢
            exact ⟨hb, hu.2⟩
          · split at h
            · simp only [Option.some.injEq, Prod.mk.injEq] at h; rw [← h.2.1]; exact Pres.refl _ _ _
            · cases h
          · cases h
        · cases h
      · cases h
    · cases h
  kinds ro lim args S d S' e h := by
    have : e = .eff := by
      unfold checkX at h
      split at h
      · split at h
        · split at h
          · split at h
            · simp only [Option.some.injEq, Prod.mk.injEq] at h; exact h.2.2.symm
            · split at h
              · simp only [Option.some.injEq, Prod.mk.injEq] at h; exact h.2.2.symm
              · cases h
            · cases h
          · cases h
        · cases h
      · cases h
    subst this
    exact ⟨trivial, trivial, trivial⟩

/-- internal/bytealg.MakeNoZero: a row of bytes of which nothing is known. -/
def noZeroX (tE : TypeId) : Nat → Nat → CallD := fun ro lim f args S => match args with
  | [.int .i64 n] => if 0 ≤ n ∧ n ≤ 281474976710656 then some (.msl S.length 0 1 n.toNat none, S ++ [.cells [] (.text tE)], .write S.length) else none
  | _ => none

theorem noZeroX_ok {P : Types} {G : Nat → Option (List DV)} {f : FuncId} {fn : Func} {tE t : TypeId} {ps : Array TypeId} (hf : P.prog.funcs[f]? = some fn) (hname : (fn.name == "runtime.NumGoroutine") = false)
    (hb : fn.body.isNone = true) (hn : Extern.findNext fn = none) (he : Extern.find fn = some (Extern.BytealgMakeNoZero.makeNoZero ps #[t])) (ht : P.prog.underlying t = some (.slice tE)) : ExtOk P G f (noZeroX tE) where
  ok ro lim args S d S' e h M σ w vs hr hG hv := by
    unfold noZeroX at h
    split at h
    · rename_i n
      split at h
      · rename_i hcond
        simp only [Option.some.injEq, Prod.mk.injEq] at h; obtain ⟨rfl, rfl, rfl⟩ := h
        cases hv with
        | cons h1 h2 =>
        cases h2
        cases h1
        intro o a next Q hnext
        obtain ⟨cs, hrun, hle, hmax⟩ := Lib.run_makeNoZero (P := P.prog) w ps t tE ht n.toNat (by omega)
        have hnn : ((n.toNat : Nat) : Int) = n := by omega
        rw [hnn] at hrun
        rw [run_callFunc_extern hf hname hb hn he]
        have hl : ([Value.int .i64 n].toArray) = #[.int .i64 n] := rfl
        rw [hl, hrun]
        simp only [Result.andThen]
        rw [Oper.upon_value]
        refine hnext _ _ ?_
        have hst0 : Step M σ S w M σ S w.drew.drew := Step.congr hr rfl rfl rfl rfl
        have hst := hst0.rel.newRow (cs := []) (c := cs) (k := .text tE) tE (0, 0) (by simp) (fun _ e => by simp at e) (by simp) (fun _ e => by simpa using e) (fun j d hj => by simp at hj) (fun o ho => by simp)
        exact ⟨M, _, .msl (Inj.add_same _ _ _) hle (fun k e => by cases e) (fun _ => by simp), hst0.trans hst⟩
      · cases h
    · cases h
  pres ro lim args S d S' e h := by
    unfold noZeroX at h
    split at h
    · split at h
      · simp only [Option.some.injEq, Prod.mk.injEq] at h; obtain ⟨rfl, rfl, rfl⟩ := h; exact Pres.push _ _ _ _
      · cases h
    · cases h
  kinds ro lim args S d S' e h := by
    unfold noZeroX at h
    split at h
    · split at h
      · simp only [Option.some.injEq, Prod.mk.injEq] at h; obtain ⟨rfl, rfl, rfl⟩ := h
        refine ⟨fun c hc => ?_, trivial, trivial⟩
        rw [List.getElem?_append]
        split
        · rfl
        · rename_i hlt
          rw [List.getElem?_eq_none (by simp; omega), List.getElem?_eq_none (by omega)]
      · cases h
    · cases h

theorem Tryz.checks : ChecksOk Tryz.prog 73 100 where
  fn := ⟨Tryz.f73, _, Tryz.func73, rfl⟩
  used b w h0 := Any.Builder_copyCheck_used (ρ := Tryz.lays165_ren) { Tryz.lays165 with } { Tryz.Builder_Extra_165 with } b w h0
  fresh b w h0 h1 h2 := Any.Builder_copyCheck_fresh (ρ := Tryz.lays165_ren) { Tryz.lays165 with } { Tryz.Builder_Extra_165 with } b w h0 h1 h2
end Go.Dv
