/- A region that draws its order: the theorem. -/
import Derived.Test.YtjojemebfojpnaaGreatDoorBhDraw
set_option linter.unusedVariables false
set_option linter.unusedSimpArgs false
namespace Go.Dv
open Go

section
variable {P : Types} {G : Nat → Option (List DV)} {call : CallD} {ro lim : Nat} {ops : Array Oper}
variable {FR : Nat → Fr} {ST : Nat → Store} {VA : Nat → DV} {EF : Nat → Eff} {DF : Nat → List (FuncId × List DV)}

/-- What the run in the order of the text is. -/
def IsRun (P : Types) (G : Nat → Option (List DV)) (call : CallD) (ro lim : Nat) (ops : Array Oper) (FR : Nat → Fr) (ST : Nat → Store) (VA : Nat → DV) (EF : Nat → Eff) (DF : Nat → List (FuncId × List DV)) : Prop :=
  ∀ (k : Nat) (o : Oper), ops[k]? = some o → evalD P G call ro lim ops o (FR k).sl (ST k) = some (VA k, ST (k + 1), EF k, DF k) ∧ FR (k + 1) = ({ FR k with df := DF k ++ (FR k).df } : Fr).put o.dst (VA k)

theorem put_sl (fr : Fr) (df : List (FuncId × List DV)) (dst : Option Nat) (d : DV) (t : Nat) (h : dst ≠ some t) : (({ fr with df := df } : Fr).put dst d).sl[t]? = fr.sl[t]? := by
  cases dst with
  | none => rfl
  | some u =>
    have : u ≠ t := fun e => h (by rw [e])
    simp [Fr.put, List.getElem?_set_ne this]

theorem put_len (fr : Fr) (df : List (FuncId × List DV)) (dst : Option Nat) (d : DV) : (({ fr with df := df } : Fr).put dst d).sl.length = fr.sl.length := by
  cases dst <;> simp [Fr.put]

theorem put_df (fr : Fr) (df : List (FuncId × List DV)) (dst : Option Nat) (d : DV) : (({ fr with df := df } : Fr).put dst d).df = df := by
  cases dst <;> rfl

theorem run_len (hr : IsRun P G call ro lim ops FR ST VA EF DF) : ∀ k, k ≤ ops.size → (FR k).sl.length = (FR 0).sl.length
  | 0, _ => rfl
  | k + 1, h => by
    rw [(hr k ops[k] (by simp [Array.getElem?_eq_getElem (by omega : k < ops.size)])).2, put_len]
    exact run_len hr k (by omega)

theorem run_slot (hr : IsRun P G call ro lim ops FR ST VA EF DF) {t p : Nat} : ∀ q, p ≤ q → q ≤ ops.size → (∀ i o, p ≤ i → i < q → ops[i]? = some o → o.dst ≠ some t) → (FR q).sl[t]? = (FR p).sl[t]?
  | 0, hp, _, _ => by rw [Nat.le_zero.1 hp]
  | q + 1, hp, hq, h => by
    by_cases e : p = q + 1
    · rw [e]
    · have hg : ops[q]? = some ops[q] := by simp [Array.getElem?_eq_getElem (by omega : q < ops.size)]
      rw [(hr q ops[q] hg).2, put_sl _ _ _ _ _ (h q _ (by omega) (by omega) hg)]
      exact run_slot hr q (by omega) (by omega) fun i o h1 h2 h3 => h i o h1 (by omega) h3

theorem run_same (hr : IsRun P G call ro lim ops FR ST VA EF DF) (hk : CallKinds call) {p : Nat} : ∀ q, p ≤ q → q ≤ ops.size → (∀ i, p ≤ i → i < q → (EF i).turns = false) → ST q = ST p ∧ (FR q).df = (FR p).df
  | 0, hp, _, _ => by rw [Nat.le_zero.1 hp]; exact ⟨rfl, rfl⟩
  | q + 1, hp, hq, h => by
    by_cases e : p = q + 1
    · rw [e]; exact ⟨rfl, rfl⟩
    · have hg : ops[q]? = some ops[q] := by simp [Array.getElem?_eq_getElem (by omega : q < ops.size)]
      obtain ⟨h1, h2⟩ := hr q ops[q] hg
      have h3 := evalD_kind hk h1
      have h4 := h q (by omega) (by omega)
      obtain ⟨i1, i2⟩ := run_same hr hk q (by omega) (by omega) fun i a b => h i a (by omega)
      have hd : (FR (q + 1)).df = DF q ++ (FR q).df := by rw [h2, put_df]
      cases he : EF q with
      | pure => rw [he] at h3; exact ⟨by rw [h3.1]; exact i1, by rw [hd, h3.2.1]; exact i2⟩
      | read b => rw [he] at h3; exact ⟨by rw [h3.1]; exact i1, by rw [hd, h3.2.1]; exact i2⟩
      | look => rw [he] at h3; exact ⟨by rw [h3.1]; exact i1, by rw [hd, h3.2]; exact i2⟩
      | write b => rw [he] at h4; simp [Eff.turns] at h4
      | grow => rw [he] at h4; simp [Eff.turns] at h4
      | eff => rw [he] at h4; simp [Eff.turns] at h4

theorem run_box (hr : IsRun P G call ro lim ops FR ST VA EF DF) (hk : CallKinds call) {p b : Nat} : ∀ q, p ≤ q → q ≤ ops.size → (∀ i, p ≤ i → i < q → (EF i).turns = true → ∃ c, EF i = .write c ∧ c ≠ b) → (ST q)[b]? = (ST p)[b]?
  | 0, hp, _, _ => by rw [Nat.le_zero.1 hp]
  | q + 1, hp, hq, h => by
    by_cases e : p = q + 1
    · rw [e]
    · have hg : ops[q]? = some ops[q] := by simp [Array.getElem?_eq_getElem (by omega : q < ops.size)]
      obtain ⟨h1, h2⟩ := hr q ops[q] hg
      have h3 := evalD_kind hk h1
      rw [← run_box hr hk q (by omega) (by omega) fun i a b => h i a (by omega)]
      have h4 := h q (by omega) (by omega)
      cases he : EF q with
      | pure => rw [he] at h3; rw [h3.1]
      | read c => rw [he] at h3; rw [h3.1]
      | look => rw [he] at h3; rw [h3.1]
      | write c =>
        rw [he] at h3 h4
        obtain ⟨c', hc, hne⟩ := h4 rfl
        injection hc with hc; subst hc
        exact h3.1 b (Ne.symm hne)
      | grow => rw [he] at h4; obtain ⟨c', hc, _⟩ := h4 rfl; cases hc
      | eff => rw [he] at h4; obtain ⟨c', hc, _⟩ := h4 rfl; cases hc

def On (listed : Array Bool) (i : Nat) : Prop := listed.getD i false = true

/-- Where the machine stands, some operations being done. -/
structure Inv (ops : Array Oper) (FR : Nat → Fr) (ST : Nat → Store) (EF : Nat → Eff) (M0 : Mem) (σ0 : Inj) (S0 : Store) (w0 : World) (listed : Array Bool) (a : Act) (w : World) : Prop where
  size : listed.size = ops.size
  down : ∀ i j, i < ops.size → On listed i → Bef ops j i → On listed j
  at_ : ∃ M σ fs st, Step M0 σ0 S0 w0 M σ (ST st) w ∧ FrR M σ fs a ∧ fs.sl.length = (FR 0).sl.length ∧ st ≤ ops.size ∧ fs.df = (FR st).df ∧
    (∀ k, k < ops.size → (EF k).turns = true → (On listed k ↔ k < st)) ∧
    (∀ i o t, ops[i]? = some o → o.dst = some t → On listed i → fs.sl[t]? = (FR (i + 1)).sl[t]?) ∧
    (∀ t, (∀ i o, ops[i]? = some o → o.dst = some t → ¬ On listed i) → fs.sl[t]? = (FR 0).sl[t]?)

theorem on_set {listed : Array Bool} {i j : Nat} (hi : i < listed.size) : On (listed.setIfInBounds i true) j ↔ j = i ∨ On listed j := by
  unfold On
  rw [arr_getD_set]
  by_cases h : i = j
  · subst h; simp [hi]
  · rw [if_neg (fun e => h e.1)]
    constructor
    · exact .inr
    · rintro (e | e)
      · exact absurd e.symm h
      · exact e

theorem count_set {l : List Bool} {i : Nat} (h : l[i]? = some false) : (l.set i true).count false < l.count false := by
  induction l generalizing i with
  | nil => simp at h
  | cons b l ih =>
    cases i with
    | zero => simp at h; subst h; simp
    | succ i =>
      simp at h
      have := ih h
      simp only [List.set_cons_succ, List.count_cons]
      omega

theorem draw_any (hr : IsRun P G call ro lim ops FR ST VA EF DF) (hk : CallKinds call) (hcall : CallOk P G call) (hreg : regOk ops (befs ops.toList []) = true)
    (hfree : ∀ i j, i < ops.size → j < i → (EF i).free (EF j) = true ∨ Bef ops j i) {M0 : Mem} {σ0 : Inj} {S0 : Store} {w0 : World} (hG : GOk G M0) {Q : Exit → Act → World → Prop}
    (hn : ∀ M' σ' a' w', Step M0 σ0 S0 w0 M' σ' (ST ops.size) w' → FrR M' σ' (FR ops.size) a' → Q .normal a' w') :
    ∀ (fuel : Nat) (listed : Array Bool) (a : Act) (w : World), listed.toList.count false ≤ fuel → Inv ops FR ST EF M0 σ0 S0 w0 listed a w → wpAny P.prog .any ops Q fuel listed a w := by
  have done : ∀ (listed : Array Bool) (a : Act) (w : World), Inv ops FR ST EF M0 σ0 S0 w0 listed a w → (∀ i, i < ops.size → On listed i) → Q .normal a w := by
    intro listed a w hinv hall
    obtain ⟨hsize, hdown, M, σ, fs, st, h1, h2, h3, h4, h5, h6, h7, h8⟩ := hinv
    obtain ⟨e1, e2⟩ := run_same hr hk (p := st) ops.size h4 (Nat.le_refl _) (fun i hi hin => by
      cases ht : (EF i).turns with
      | false => rfl
      | true => have := (h6 i hin ht).1 (hall i hin); omega)
    have hfs : fs = FR ops.size := by
      have hsl : fs.sl = (FR ops.size).sl := by
        apply List.ext_getElem?
        intro t
        by_cases hw : ∃ (i : Nat) (o : Oper), ops[i]? = some o ∧ o.dst = some t
        · obtain ⟨i, o, hi, ht⟩ := hw
          have hlt := lt_of_get hi
          rw [h7 i o t hi ht (hall i hlt)]
          refine (run_slot hr ops.size (by omega) (Nat.le_refl _) fun j o' hj1 hj2 hj3 => ?_).symm
          exact ((regOk_spec hreg hi).2 t ht j o' hj3 (by omega)).1
        · rw [h8 t fun i o hi ht => absurd ⟨i, o, hi, ht⟩ hw]
          exact (run_slot hr ops.size (Nat.zero_le _) (Nat.le_refl _) fun j o' _ _ hj3 ht => hw ⟨j, o', hj3, ht⟩).symm
      cases fs with
      | mk sl df => 
        simp only at hsl h5
        rw [hsl, h5, ← e2]
    rw [← e1] at h1
    exact hn M σ a w h1 (hfs ▸ h2)
  have allOf : ∀ (listed : Array Bool), listed.size = ops.size → Region.ready .any ops listed = [] → ∀ i, i < ops.size → On listed i := by
    intro listed hsize hre i
    induction i using Nat.strongRecOn with
    | _ i ih =>
      intro hi
      apply Classical.byContradiction
      intro hno
      have hg : ops[i]? = some ops[i] := by simp [Array.getElem?_eq_getElem hi]
      have : i ∈ Region.ready .any ops listed := by
        rw [mem_ready]
        refine ⟨?_, ops[i], hg, fun e he hb => ih e.on ((regOk_spec hreg hg).1 e (Array.mem_toList_iff.2 he) hb) (Nat.lt_trans ((regOk_spec hreg hg).1 e (Array.mem_toList_iff.2 he) hb) hi)⟩
        unfold On at hno
        rw [Array.getD_eq_getD_getElem?, Array.getElem?_eq_getElem (by omega)] at hno ⊢
        simpa using hno
      rw [hre] at this; cases this
  intro fuel
  induction fuel with
  | zero =>
    intro listed a w hc hinv
    have hsize := hinv.size
    have hall : ∀ i, i < ops.size → On listed i := fun i hi => by
      unfold On
      rw [Array.getD_eq_getD_getElem?, Array.getElem?_eq_getElem (by omega)]
      simp only [Option.getD_some]
      have : false ∉ listed.toList := List.count_eq_zero.1 (by omega)
      cases hb : listed[i] with
      | true => rfl
      | false => exact absurd (hb ▸ Array.getElem_mem_toList (by omega)) this
    refine ⟨?_, done listed a w hinv hall⟩
    cases hre : Region.ready .any ops listed with
    | nil => rfl
    | cons i rest =>
      have hm : i ∈ Region.ready .any ops listed := by rw [hre]; simp
      rw [mem_ready] at hm
      obtain ⟨h0, o, ho, _⟩ := hm
      have hlt := lt_of_get ho
      have h1 := hall i hlt
      unfold On at h1
      rw [Array.getD_eq_getD_getElem?, Array.getElem?_eq_getElem (by omega)] at h0 h1
      simp at h0 h1; rw [h0] at h1; cases h1
  | succ fuel ih =>
    intro listed a w hc hinv
    refine ⟨fun hre => done listed a w hinv (allOf listed hinv.size hre), fun i hi => ?_⟩
    rw [mem_ready] at hi
    obtain ⟨h0, o, ho, hedges⟩ := hi
    have hlt := lt_of_get ho
    obtain ⟨hsize, hdown, M, σ, fs, st, h1, h2, h3, h4, h5, h6, h7, h8⟩ := hinv
    have hli : i < listed.size := by omega
    have hnot : ¬ On listed i := by
      unfold On
      rw [Array.getD_eq_getD_getElem?, Array.getElem?_eq_getElem hli] at h0 ⊢
      simp at h0 ⊢; exact h0
    have hpre : ∀ j, Bef ops j i → On listed j := fun j hb => by
      obtain ⟨e, he, hbind, h⟩ := bef_edge ho (regOk_spec hreg ho).1 hb
      have hon := hedges e (Array.mem_toList_iff.1 he) hbind
      rcases h with rfl | h
      · exact hon
      · exact hdown e.on j (by have := (regOk_spec hreg ho).1 e he hbind; omega) hon h
    have hpost : ∀ j, j < ops.size → Bef ops i j → ¬ On listed j := fun j hj hb hon => hnot (hdown j i hj hon hb)
    obtain ⟨hev, hfr⟩ := hr i o ho
    have hslots : ∀ t ∈ looksD ops o, fs.sl[t]? = (FR i).sl[t]? := by
      intro t ht
      by_cases hw : ∃ (j : Nat) (o' : Oper), ops[j]? = some o' ∧ o'.dst = some t ∧ j ≠ i
      · obtain ⟨j, o', hj, hjt, hji⟩ := hw
        have hjlt := lt_of_get hj
        obtain ⟨_, hord⟩ := (regOk_spec hreg hj).2 t hjt i o ho (Ne.symm hji)
        have hord := hord ht
        by_cases hlt2 : j < i
        · rw [if_pos hlt2] at hord
          rw [h7 j o' t hj hjt (hpre j hord)]
          exact (run_slot hr i (by omega) (by omega) fun k ok hk1 hk2 hk3 => ((regOk_spec hreg hj).2 t hjt k ok hk3 (by omega)).1).symm
        · rw [if_neg hlt2] at hord
          rw [h8 t fun k ok hk hkt => ?_]
          · exact (run_slot hr i (Nat.zero_le _) (by omega) fun k ok hk1 hk2 hk3 => ((regOk_spec hreg hj).2 t hjt k ok hk3 (by omega)).1).symm
          · have : k = j := Classical.byContradiction fun hne => ((regOk_spec hreg hj).2 t hjt k ok hk hne).1 hkt
            subst this
            exact hpost k hjlt hord
      · rw [h8 t fun k ok hk hkt => ?_]
        · exact (run_slot hr i (Nat.zero_le _) (by omega) fun k ok hk1 hk2 hk3 hkt => hw ⟨k, ok, hk3, hkt, by omega⟩).symm
        · have : k = i := Classical.byContradiction fun hne => hw ⟨k, ok, hk, hkt, hne⟩
          rw [this]; exact hnot
    have hev2 : evalD P G call ro lim ops o fs.sl (ST i) = some (VA i, ST (i + 1), EF i, DF i) := by rw [evalD_congr hslots]; exact hev
    have hkind := evalD_kind hk hev2
    have hne : ∀ k, k < ops.size → k ≠ i → (EF i).free (EF k) = false → (k < i → Bef ops k i) ∧ (i < k → Bef ops i k) := fun k hkn hki hf => by
      refine ⟨fun h => (hfree i k hlt h).resolve_left (by rw [hf]; simp), fun h => (hfree k i hkn h).resolve_left (by rw [Eff.free_comm, hf]; simp)⟩
    -- the stage, told by the text's own order, where all turning operations lie in order with this one
    have stage : (∀ k, k < ops.size → (EF k).turns = true → k ≠ i → (EF i).free (EF k) = false) → ((EF i).turns = true → st ≤ i) → (∀ k, k < i → (EF k).turns = true → k < st) ∧ ∀ k, k < ops.size → i < k → (EF k).turns = true → ¬ k < st := by
      intro hf _
      refine ⟨fun k hki ht => (h6 k (by omega) ht).1 (hpre k ((hne k (by omega) (by omega) (hf k (by omega) ht (by omega))).1 hki)), fun k hkn hki ht hks => ?_⟩
      exact hpost k hkn ((hne k hkn (by omega) (hf k hkn ht (by omega))).2 hki) ((h6 k hkn ht).2 hks)
    have sti : (EF i).turns = true → st ≤ i := fun ht => by
      apply Classical.byContradiction
      intro hlt'
      exact hnot ((h6 i hlt ht).2 (by omega))
    have sameStage : (∀ k, k < ops.size → (EF k).turns = true → k ≠ i → (EF i).free (EF k) = false) → ST st = ST i ∧ (FR st).df = (FR i).df := by
      intro hf
      obtain ⟨g1, g2⟩ := stage hf sti
      by_cases hle : st ≤ i
      · have := run_same hr hk (p := st) i hle (by omega) fun k hk1 hk2 => by
          cases ht : (EF k).turns with
          | false => rfl
          | true => have := g1 k hk2 ht; omega
        exact ⟨this.1.symm, this.2.symm⟩
      · exact run_same hr hk (p := i) st (by omega) h4 fun k hk1 hk2 => by
          cases ht : (EF k).turns with
          | false => rfl
          | true =>
            by_cases hki : k = i
            · subst hki; exact absurd (sti ht) hle
            · exact absurd hk2 (g2 k (by omega) (by omega) ht)
    have fin : ∀ (S' : Store) (st' : Nat), evalD P G call ro lim ops o fs.sl (ST st) = some (VA i, S', EF i, DF i) → S' = ST st' → st' ≤ ops.size → DF i ++ fs.df = (FR st').df →
        (∀ k, k < ops.size → (EF k).turns = true → ((k = i ∨ On listed k) ↔ k < st')) →
        wpOp P.prog ops Q i (wpAny P.prog .any ops Q fuel (listed.setIfInBounds i true)) a w := by
      intro S' st' hev' hS hst' hdf hst
      subst hS
      refine evalD_sound h1.rel (hG.mono h1.mem) hcall h2 ho hev' fun M' σ' a' w' hstep hf' => ?_
      refine ih _ a' w' ?_ ⟨by simpa using hsize, ?_, M', σ', _, st', h1.trans hstep, hf', ?_, hst', ?_, ?_, ?_, ?_⟩
      · have hg : listed.toList[i]? = some false := by
          rw [Array.getElem?_toList, Array.getElem?_eq_getElem hli]
          rw [Array.getD_eq_getD_getElem?, Array.getElem?_eq_getElem hli] at h0
          simpa using h0
        have := count_set hg
        rw [Array.toList_setIfInBounds]
        omega
      · intro k j hk hon hb
        rw [on_set hli] at hon ⊢
        right
        rcases hon with rfl | hon
        · exact hpre j hb
        · exact hdown k j hk hon hb
      · rw [put_len]; exact h3
      · rw [put_df]; exact hdf
      · intro k hkn ht
        rw [on_set hli]; exact hst k hkn ht
      · intro j oj t hj hjt hon
        rw [on_set hli] at hon
        by_cases hji : j = i
        · subst hji
          rw [ho] at hj; injection hj with hj; subst hj
          rw [hfr]
          simp only [Fr.put, hjt]
          rw [List.getElem?_set, List.getElem?_set]
          have hl : (FR j).sl.length = (FR 0).sl.length := run_len hr j (by omega)
          rw [h3, hl]
          simp
        · have hne2 : o.dst ≠ some t := ((regOk_spec hreg hj).2 t hjt i o ho (Ne.symm hji)).1
          rw [put_sl _ _ _ _ _ hne2]
          exact h7 j oj t hj hjt (hon.resolve_left hji)
      · intro t hno
        have hne2 : o.dst ≠ some t := fun e => hno i o ho e ((on_set hli).2 (.inl rfl))
        rw [put_sl _ _ _ _ _ hne2]
        exact h8 t fun k ok hk hkt hon => hno k ok hk hkt ((on_set hli).2 (.inr hon))
    have finTurn : (EF i).turns = true → (∀ k, k < ops.size → (EF k).turns = true → k ≠ i → (EF i).free (EF k) = false) → wpOp P.prog ops Q i (wpAny P.prog .any ops Q fuel (listed.setIfInBounds i true)) a w := by
      intro ht hf
      obtain ⟨e1, e2⟩ := sameStage hf
      obtain ⟨g1, g2⟩ := stage hf sti
      refine fin (ST (i + 1)) (i + 1) (by rw [e1]; exact hev2) rfl (by omega) (by rw [hfr, put_df, h5, e2]) fun k hkn htk => ?_
      constructor
      · rintro (rfl | hon)
        · omega
        · have := (h6 k hkn htk).1 hon
          have := sti ht; omega
      · intro hki
        by_cases e : k = i
        · exact .inl e
        · exact .inr ((h6 k hkn htk).2 (g1 k (by omega) htk))
    have finStay : (EF i).turns = false → DF i = [] → evalD P G call ro lim ops o fs.sl (ST st) = some (VA i, ST st, EF i, DF i) → wpOp P.prog ops Q i (wpAny P.prog .any ops Q fuel (listed.setIfInBounds i true)) a w := by
      intro ht hdf hev'
      refine fin (ST st) st hev' rfl h4 (by rw [hdf]; exact h5) fun k hkn htk => ?_
      constructor
      · rintro (rfl | hon)
        · rw [ht] at htk; cases htk
        · exact (h6 k hkn htk).1 hon
      · exact fun h => .inr ((h6 k hkn htk).2 h)
    cases he : EF i with
    | pure =>
      rw [he] at hkind
      obtain ⟨k1, k2, k3⟩ := hkind
      exact finStay (by rw [he]; rfl) k2 (by rw [k3, he, k2])
    | read b =>
      rw [he] at hkind
      obtain ⟨k1, k2, k3⟩ := hkind
      have between : ∀ k, k < ops.size → (EF k).turns = true → (¬ ∃ c, EF k = .write c ∧ c ≠ b) → k ≠ i → (k < i → k < st) ∧ (i < k → ¬ k < st) := by
        intro k hkn ht hw hki
        have hf : (EF i).free (EF k) = false := by
          rw [he]
          cases hek : EF k with
          | pure => rw [hek] at ht; cases ht
          | read c => rw [hek] at ht; cases ht
          | look => rw [hek] at ht; cases ht
          | write c =>
            have : c = b := Classical.byContradiction fun hne => hw ⟨c, hek, hne⟩
            subst this; simp [Eff.free]
          | grow => rfl
          | eff => rfl
        obtain ⟨n1, n2⟩ := hne k hkn hki hf
        exact ⟨fun h => (h6 k hkn ht).1 (hpre k (n1 h)), fun h hs => hpost k hkn (n2 h) ((h6 k hkn ht).2 hs)⟩
      have hbox : (ST st)[b]? = (ST i)[b]? := by
        by_cases hle : st ≤ i
        · refine (run_box hr hk (p := st) i hle (by omega) fun k hk1 hk2 ht => ?_).symm
          apply Classical.byContradiction
          intro hw
          have := (between k (by omega) ht hw (by omega)).1 hk2; omega
        · refine run_box hr hk (p := i) st (by omega) h4 fun k hk1 hk2 ht => ?_
          apply Classical.byContradiction
          intro hw
          by_cases hki : k = i
          · subst hki; rw [he] at ht; cases ht
          · exact (between k (by omega) ht hw hki).2 (by omega) hk2
      exact finStay (by rw [he]; rfl) k2 (by rw [k3 _ hbox, he, k2])
    | look =>
      rw [he] at hkind
      obtain ⟨k1, k2⟩ := hkind
      have hf : ∀ k, k < ops.size → (EF k).turns = true → k ≠ i → (EF i).free (EF k) = false := fun k hkn ht _ => by
        rw [he]; cases hek : EF k <;> rw [hek] at ht <;> first | (cases ht; done) | rfl
      obtain ⟨e1, e2⟩ := sameStage hf
      exact finStay (by rw [he]; rfl) k2 (by rw [e1, hev2, k1])
    | write b =>
      refine finTurn (by rw [he]; rfl) fun k hkn ht _ => ?_
      rw [he]; cases hek : EF k <;> rw [hek] at ht <;> first | (cases ht; done) | rfl
    | grow =>
      refine finTurn (by rw [he]; rfl) fun k hkn ht _ => ?_
      rw [he]; cases hek : EF k <;> rw [hek] at ht <;> first | (cases ht; done) | rfl
    | eff =>
      refine finTurn (by rw [he]; rfl) fun k hkn ht _ => ?_
      rw [he]; cases hek : EF k <;> rw [hek] at ht <;> first | (cases ht; done) | rfl

theorem not_on {n i : Nat} : ¬ On (Array.replicate n false) i := by
  unfold On
  rw [Array.getD_eq_getD_getElem?, Array.getElem?_replicate]
  split <;> simp

theorem drawD_region {id : Nat} {Q : Exit → Act → World → Prop} (hm : P.prog.follows .mixedOrders = true) (hk : CallKinds call) (hcall : CallOk P G call) (hreg : regOk ops (befs ops.toList []) = true)
    {M : Mem} {σ : Inj} {S S' : Store} {w : World} {fr fr' : Fr} {a : Act} (h : Rel M σ S w) (hG : GOk G M) (hf : FrR M σ fr a)
    (hs : drawD P G call ro lim ops (befs ops.toList []) 0 ops.toList [] fr S = some (fr', S'))
    (hn : ∀ M' σ' a' w', Step M σ S w M' σ' S' w' → FrR M' σ' fr' a' → Q .normal a' w') : (Code.region id ops true).wp P.prog Q a w := by
  obtain ⟨FR, ST, VA, EF, DF, q1, q2, q3, q4, q5, q6⟩ := drawD_run (fun j => by simp) hs
  simp only [Array.length_toList] at q3 q4 q6
  refine wp_region_any hm ?_
  have hw1 : ({ w with drawn := w.drawn + 1 } : World) = drewW w := rfl
  rw [hw1]
  have hst0 := Step.congr (w' := drewW w) h rfl rfl rfl rfl
  refine draw_any (FR := FR) (ST := ST) (VA := VA) (EF := EF) (DF := DF) (ro := ro) (lim := lim) (M0 := M) (σ0 := σ) (S0 := S) (w0 := w) (fun k o hko => q5 k o (by simpa using hko)) hk hcall hreg (fun i j hi hj => ?_) hG (fun M' σ' a' w' hst hf' => ?_) ops.size _ a _ ?_ ⟨by simp, fun i j hi hon => ?_, M, σ, fr, 0, ?_, hf, by rw [q1], by omega, by rw [q1], fun k hk ht => ?_, fun i o t hi ht hon => ?_, fun t _ => by rw [q1]⟩
  · have := (q6 i hi).2 j hj
    simpa using this
  · rw [q4] at hst; rw [q3] at hf'; exact hn M' σ' a' w' hst hf'
  · simp
  · exact absurd hon not_on
  · rw [q2]; exact hst0
  · exact ⟨fun hon => absurd hon not_on, fun h => by omega⟩
  · exact absurd hon not_on
end
end Go.Dv
