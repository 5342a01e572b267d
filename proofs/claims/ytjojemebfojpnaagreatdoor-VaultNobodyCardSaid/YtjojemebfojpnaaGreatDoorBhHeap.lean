/- Operations that turn the store: new rows of cells, append, copy. -/
import Derived.Test.YtjojemebfojpnaaGreatDoorBhPure3
import Derived.Laws.BytesString
set_option linter.unusedVariables false
set_option linter.unusedSimpArgs false
namespace Go.Dv
open Go

section
variable {P : Types} {M : Mem} {σ : Inj} {S : Store} {w : World}

theorem Rel.congr {w' : World} (h : Rel M σ S w) (hw : w'.heap = w.heap) : Rel M σ S w' := by
  have hb : ∀ {b x}, BoxAt M σ w b x → BoxAt M σ w' b x := fun {b x} hx => hx.mono (Mem.le_refl M) (Inj.le_refl σ) (fun β n _ _ => by rw [hw]) (fun _ _ _ h => h)
  exact ⟨fun β o v hm => (cell?_congr (by rw [hw])).trans (h.mem β o v hm), fun b β n hb => by rw [hw]; exact h.dom b β n hb, fun b x hx => hb (h.box b x hx), h.sep⟩

theorem Step.congr {w' : World} (h : Rel M σ S w) (hw : w'.heap = w.heap) (h1 : w'.os = w.os) (h2 : w'.tape = w.tape) (h3 : w'.output = w.output) : Step M σ S w M σ S w' :=
  ⟨Mem.le_refl M, fun _ _ _ h => .inl h, Inj.le_refl σ, h.congr hw, ⟨h1, h2, h3, by rw [hw]; exact Nat.le_refl _, fun β _ _ => by rw [hw]⟩, fun b β n ho hb _ => ⟨b, n, ho, hb⟩⟩

theorem Owns.low {x : Box} {b : Nat} (h : Owns (S ++ [x]) b) (hb : b ≠ S.length) : Owns S b := by
  rcases h with ⟨cs, k, hy, hk⟩ | ⟨es, k, hy⟩ | ⟨s, p, hy⟩ <;> rcases get_append_one hy with hy | ⟨e, _⟩
  · exact .inl ⟨_, _, hy, hk⟩
  · exact absurd e hb
  · exact .inr (.inl ⟨_, _, hy⟩)
  · exact absurd e hb
  · exact .inr (.inr ⟨_, _, hy⟩)
  · exact absurd e hb

/-- A new block: a step. -/
theorem Rel.pushStep (h : Rel M σ S w) {o : Obj} {x : Box} {n : Nat} (hr : Rel M (σ.add S.length (w.heap.size, n)) (S ++ [x]) (pushW w o)) :
    Step M σ S w M (σ.add S.length (w.heap.size, n)) (S ++ [x]) (pushW w o) :=
  ⟨Mem.le_refl M, fun _ _ _ h => .inl h, Inj.le_add h.fresh, hr, pushW_keeps σ S w o, fun b β m ho hb hβ => by
    unfold Inj.add at hb
    split at hb
    · injection hb with hb; injection hb with hb1 hb2; omega
    · rename_i e; exact ⟨b, m, ho.low e, hb⟩⟩

theorem Rel.newRow (h : Rel M σ S w) {cs : List DV} {c : Array Value} {k : Kind} (el : TypeId) (fz : Nat × Nat)
    (hl : cs.length ≤ c.size) (hk : ∀ t, k = .exact t → c.size = cs.length) (hkf : k ≠ .fixed) (hkt : ∀ t, k = .exact t ∨ k = .grown t ∨ k = .text t → el = t) (hv : ∀ (j : Nat) (d : DV), cs[j]? = some d → ∃ v, c[j]? = some v ∧ VR M σ d v)
    (hf : ∀ o, o < c.size → ¬ ((k.open = true → fz.1 ≤ o) ∧ o < fz.2)) :
    Step M σ S w M (σ.add S.length (w.heap.size, c.size)) (S ++ [.cells cs k]) (pushW w (.cells c el fz)) :=
  h.pushStep (h.newCells el fz hl hk hkf hkt hv hf)

theorem boxD_sound {t : TypeId} {x d : DV} {S' : Store} {v : Value} (h : Rel M σ S w) (hx : VR M σ x v) (hb : boxD S t x = some (d, S')) :
    ∃ u σ' w', (Instr.box t v).run P.prog w = .ok u w' ∧ VR M σ' d u ∧ Step M σ S w M σ' S' w' := by
  unfold boxD at hb
  split at hb
  · rename_i cs hc
    injection hb with hb; injection hb with hb1 hb2; subst hb1 hb2
    have hvs := hx.cells hc
    have hl := hvs.length
    simp only [Array.length_toList] at hl
    have hst := h.newRow (cs := cs) (c := v.cells) (k := .exact t) t (0, 0) (by omega) (fun _ _ => hl.symm) (by simp) (fun _ e => by simpa using e) (fun j d hj => by
      obtain ⟨u, hu, hr⟩ := hvs.get hj
      exact ⟨u, by simpa using hu, hr⟩) (fun o ho => by simp)
    exact ⟨_, _, _, by simp [Instr.box, newVar, Go.newRow, pushW], .ref (Inj.add_same _ _ _), hst⟩
  · cases hb

/-- n times the same cells, as the model lays them. -/
def zeros (z : List Value) (n : Nat) : List Value := (List.range n).map fun j => z.toArray[j % z.length]!

theorem repCells_get {z : List DV} : ∀ {n j : Nat}, j < n * z.length → (repCells n z)[j]? = z[j % z.length]?
  | 0, j, h => by simp at h
  | n + 1, j, h => by
    rw [Nat.add_mul, Nat.one_mul] at h
    unfold repCells
    by_cases hj : j < z.length
    · rw [List.getElem?_append_left hj, Nat.mod_eq_of_lt hj]
    · rw [List.getElem?_append_right (by omega), repCells_get (by omega)]
      congr 1
      rw [← Nat.mod_eq_sub_mod (by omega)]

theorem repCells_length {z : List DV} : ∀ {n : Nat}, (repCells n z).length = n * z.length
  | 0 => by simp [repCells]
  | n + 1 => by unfold repCells; rw [List.length_append, repCells_length, Nat.add_mul]; omega

theorem zeros_vrs {z : List DV} {zv : List Value} (h : VRs M σ z zv) (n : Nat) : VRs M σ (repCells n z) (zeros zv (n * z.length)) := by
  refine VRs.of_get (by rw [repCells_length]; simp [zeros]) fun i d v hd hv => ?_
  have hi : i < n * z.length := by have := lt_of_lget hd; rwa [repCells_length] at this
  rw [repCells_get hi] at hd
  obtain ⟨u, hu, hr⟩ := h.get hd
  have hzl : 0 < z.length := by
    rcases Nat.eq_zero_or_pos z.length with e | e
    · rw [e] at hi; simp at hi
    · exact e
  simp only [zeros, List.getElem?_map, List.getElem?_range hi, Option.map_some, Option.some.injEq] at hv
  have : zv.toArray[i % zv.length]! = u := by
    rw [← h.length]
    have hlt : i % z.length < zv.length := by rw [← h.length]; exact Nat.mod_lt _ hzl
    have : zv[i % z.length] = u := by rw [List.getElem?_eq_getElem hlt] at hu; injection hu
    simp [hlt, this]
  rw [← hv, this]; exact hr

theorem zeros_arr (z : List Value) (n : Nat) : ((Array.range n).map fun i => z.toArray[i % z.toArray.size]!).toList = zeros z n := by
  simp [zeros]

theorem chunk_some {sz : Nat} : ∀ {n : Nat} {cs : List DV} {rows : List (List DV)}, chunk sz n cs = some rows → rows.length = n ∧ ∀ (i : Nat) (r : List DV), rows[i]? = some r → r.length = sz ∧ r = (cs.drop (i * sz)).take sz
  | 0, cs, rows, h => by simp [chunk] at h; subst h; simp
  | n + 1, cs, rows, h => by
    unfold chunk at h
    split at h
    · rename_i hle
      cases hc : chunk sz n (cs.drop sz) with
      | none => simp [hc] at h
      | some rs =>
        simp only [hc, Option.map_some, Option.some.injEq] at h; subst h
        obtain ⟨h1, h2⟩ := chunk_some hc
        refine ⟨by simp [h1], fun i r hr => ?_⟩
        cases i with
        | zero => simp at hr; subst hr; simp; omega
        | succ i =>
          simp only [List.getElem?_cons_succ] at hr
          obtain ⟨g1, g2⟩ := h2 i r hr
          refine ⟨g1, ?_⟩
          rw [g2, List.drop_drop]
          congr 2
          rw [Nat.add_mul]; omega
    · cases h

/-- Cells that are not written any more, in rows. -/
theorem chunk_rows {M : Mem} {β o sz n : Nat} {cs : List DV} {rows : List (List DV)} (h : VCells M β o cs) (hc : chunk sz n cs = some rows) : VRows M β o sz rows :=
  VRows.of_get fun i r hr => by
    obtain ⟨_, h2⟩ := chunk_some hc
    obtain ⟨g1, g2⟩ := h2 i r hr
    exact ⟨g1, by rw [g2]; exact (h.drop _).take _⟩

theorem fillD_length {place : Nat → Option (Nat × Nat)} : ∀ {ps : List (Nat × DV)} {a b : List DV}, fillD place a ps = some b → b.length = a.length
  | [], a, b, h => by simp [fillD] at h; rw [h]
  | p :: ps, a, b, h => by
    unfold fillD at h
    split at h
    · split at h
      · cases h
      · rename_i hn
        rw [fillD_length h, splice_length]
        exact Nat.le_of_not_lt fun e => hn (.inr e)
    · cases h

/-- A block that is laid as data. -/
theorem Rel.lay (h : Rel M σ S w) {cs : List DV} {c : Array Value} (el : TypeId) (hv : VRs M σ cs c.toList) (hu : DV.under.underAll 0 cs = true) :
    ∃ M', VCells M' w.heap.size 0 cs ∧ Step M σ S w M' σ S (pushW w (.cells c el (0, 0))) := by
  let M' : Mem := fun β o => if β = w.heap.size then c[o]? else M β o
  have hM : M.le M' := fun β o v hm => by
    have : β < w.heap.size := by obtain ⟨c, el, fz, hc, _⟩ := cell?_of (h.mem _ _ _ hm); exact lt_of_get hc
    show (if β = w.heap.size then c[o]? else M β o) = some v
    rw [if_neg (by omega)]; exact hm
  refine ⟨M', VCells.of_get fun i d hd => ?_, hM, fun β o v hm => ?_, Inj.le_refl σ, ⟨fun β o v hm => ?_, fun b β n hb => ?_, fun b x hx => ?_, h.sep⟩, pushW_keeps σ S w _, fun b β n ho hb _ => ⟨b, n, ho, hb⟩⟩
  · obtain ⟨v, hv1, hv2⟩ := hv.get hd
    refine ⟨v, ?_, (hv2.pure (underAll_iff.1 hu d (List.mem_of_getElem? hd)) noInj).mono hM (Inj.le_refl _)⟩
    show (if w.heap.size = w.heap.size then c[0 + i]? else M w.heap.size (0 + i)) = some v
    rw [if_pos rfl, Nat.zero_add]; simpa using hv1
  · have hm' : (if β = w.heap.size then c[o]? else M β o) = some v := hm
    split at hm'
    · rename_i e; exact .inr (.inl (by omega))
    · exact .inl hm'
  · have hm' : (if β = w.heap.size then c[o]? else M β o) = some v := hm
    split at hm'
    · rename_i e; subst e; rw [cell?_at (pushW_new _ _)]; exact hm'
    · have hc := h.mem β o v hm'
      obtain ⟨c0, el0, fz0, hc1, _⟩ := cell?_of hc
      rw [cell?_congr (pushW_old (lt_of_get hc1))]; exact hc
  · have := h.dom b β n hb
    exact ⟨this.1, by simp [pushW]; omega⟩
  · refine (h.box b x hx).mono hM (Inj.le_refl σ) (fun β n hb _ => pushW_old (h.dom _ _ _ hb).2) (fun β n hb hn o => ?_)
    show (if β = w.heap.size then c[o]? else M β o) = none
    have := (h.dom _ _ _ hb).2
    rw [if_neg (by omega)]; exact hn o

theorem buildSliceD_sound {t : TypeId} {len : Nat} {ps : List (Nat × DV)} {vs : Array (Nat × Value)} {d : DV} {S' : Store} {e : Eff} (h : Rel M σ S w) (hp : Parts M σ ps vs.toList)
    (hb : buildSliceD P S t len ps = some (d, S', e)) : ∃ u M' σ' w', (Instr.buildSlice t len vs).run P.prog w = .ok u w' ∧ VR M' σ' d u ∧ Step M σ S w M' σ' S' w' := by
  unfold buildSliceD at hb
  split at hb
  · rename_i elem hu
    split at hb
    · rename_i size z hs hz
      split at hb
      · rename_i hc
        obtain ⟨hzl, hlim⟩ := hc
        cases hz0 : zeroD P elem with
        | none => simp [hz0] at hz
        | some z0 =>
        simp only [hz0, Option.bind_some] at hz
        obtain ⟨v0, hr0, hv0⟩ := run_zeroD M σ hz0
        have hzv := hv0.cells hz
        split at hb
        · rename_i cs hf
          have hrep := zeros_vrs hzv len
          rw [hzl] at hrep
          obtain ⟨c, hc1, hc2⟩ := fillD_sound (M := M) (σ := σ) _ (fun i => some (i * size, size)) (fun i q hq => hq) (c := (zeros v0.cells.toList (len * size)).toArray) hp (by simpa using hrep) hf
          have hcl := hc2.length
          simp only [Array.length_toList] at hcl
          have hlen : cs.length = len * size := by rw [fillD_length hf, repCells_length, hzl]
          have hlim' : ¬ (len * size > 2 ^ 24) := by have : (2 : Nat) ^ 24 = 16777216 := by decide
                                                     omega
          have hrun : (Instr.buildSlice t len vs).run P.prog w = .ok (.slice (some ⟨w.heap.size, 0, none⟩) len len) (pushW w (.cells c elem (0, 0))) := by
            by_cases h0 : len * size = 0
            · have e0 : (zeros v0.cells.toList (len * size)).toArray = (Array.range 0).map fun i => (#[] : Array Value)[i % 0]! := by
                rw [h0]; simp [zeros]
              have hc1' : Instr.fill (fun i => some (i * size, size)) #[] vs.toList = some c := by
                rw [← hc1]; congr 1; rw [h0]; simp [zeros]
              have er : ∀ f : Nat → Value, Array.map f (Array.range 0) = #[] := fun f => by apply Array.ext'; simp
              simp only [Instr.buildSlice, Sem.run_bind, run_underlyingD hu, Result.andThen_ok, run_sizeOfD hs, if_neg hlim', h0, if_true, Sem.run_pure, er, hc1']
              simp [Go.newRow, pushW]
            · have hc1' : Instr.fill (fun i => some (i * size, size)) ((Array.range (len * size)).map (v0.cells[· % v0.cells.size]!)) vs.toList = some c := by
                rw [← hc1]; congr 1
                apply Array.ext'
                rw [← zeros_arr]
              simp only [Instr.buildSlice, Sem.run_bind, run_underlyingD hu, Result.andThen_ok, run_sizeOfD hs, if_neg hlim', if_neg h0, hr0, Sem.run_pure, Sem.run_ite]
              simp [hc1', Go.newRow, pushW]
          split at hb
          · rename_i hund
            cases hch : chunk size len cs with
            | none => simp [hch, pureR] at hb
            | some rows =>
              simp only [hch, Option.map_some, pureR, Option.some.injEq, Prod.mk.injEq] at hb
              obtain ⟨rfl, rfl, rfl⟩ := hb
              obtain ⟨M', hm1, hm2⟩ := h.lay elem hc2 hund
              have hrl := (chunk_some hch).1
              have hv := VR.sl (σ := σ) (ex := true) (c := rows.length) (chunk_rows hm1 hch) (Nat.le_refl _) (fun _ => rfl)
              rw [hrl] at hv
              exact ⟨_, M', σ, _, hrun, hv, hm2⟩
          · simp only [Option.some.injEq, Prod.mk.injEq] at hb
            obtain ⟨rfl, rfl, rfl⟩ := hb
            have hst := h.newRow (cs := cs) (c := c) (k := .exact elem) elem (0, 0) (by omega) (fun _ _ => hcl.symm) (by simp) (fun _ e => by simpa using e) (fun j d hj => by
              obtain ⟨u, hu, hr⟩ := hc2.get hj
              exact ⟨u, by simpa using hu, hr⟩) (fun o ho => by simp)
            exact ⟨.slice (some ⟨w.heap.size, 0, none⟩) len len, M, _, _, hrun, .msl (Inj.add_same _ _ _) (Nat.le_refl _) (fun k hk => by injection hk) (fun e => by cases e), hst⟩
        · cases hb
      · cases hb
    · cases hb
  · cases hb

theorem wrap_small {n : Int} (h0 : 0 ≤ n) (h1 : n < 9223372036854775808) : IntKind.i64.wrap n = n := by
  unfold IntKind.wrap
  simp only [IntKind.bits, IntKind.signed]
  have e : n % (2 ^ 64 : Int) = n := Int.emod_eq_of_lt h0 (by omega)
  simp only [e]
  rw [if_neg (by simp; omega)]

theorem makeSliceD_sound {t : TypeId} {len cap d : DV} {vl vc : Value} {S' : Store} (h : Rel M σ S w) (hl : VR M σ len vl) (hc : VR M σ cap vc)
    (hb : makeSliceD P S t len cap = some (d, S')) : ∃ u σ' w', (Instr.makeSlice t vl vc).run P.prog w = .ok u w' ∧ VR M σ' d u ∧ Step M σ S w M σ' S' w' := by
  unfold makeSliceD at hb
  split at hb
  · rename_i elem l c hu
    cases hl; cases hc
    split at hb
    · rename_i size bytes z hs hby hz
      split at hb
      · rename_i hcond
        obtain ⟨hzl, h0, hlc, hcm, hbytes⟩ := hcond
        injection hb with hb; injection hb with hb1 hb2; subst hb1 hb2
        cases hz0 : zeroD P elem with
        | none => simp [hz0] at hz
        | some z0 =>
        simp only [hz0, Option.bind_some] at hz
        obtain ⟨v0, hr0, hv0⟩ := run_zeroD M σ hz0
        have hzv := hv0.cells hz
        obtain ⟨i, hi, hib⟩ := run_bytesD hby
        have hrep := zeros_vrs hzv c.toNat
        rw [hzl] at hrep
        have hrl := hrep.length
        have hst := h.newRow (cs := repCells c.toNat z) (c := (zeros v0.cells.toList (c.toNat * size)).toArray) (k := .exact elem) elem (0, 0) (by simp; omega) (fun _ _ => by simp; omega) (by simp) (fun _ e => by simpa using e) (fun j d hj => by
          obtain ⟨u, hu, hr⟩ := hrep.get hj
          exact ⟨u, by simpa using hu, hr⟩) (fun o ho => by simp)
        refine ⟨.slice (some ⟨w.heap.size, 0, none⟩) l.toNat c.toNat, _, _, ?_, .msl (Inj.add_same _ _ _) (by omega) (fun k hk => by injection hk) (fun e => by cases e), hst⟩
        have wl : IntKind.i64.wrap l = l := wrap_small h0 (by omega)
        have wc : IntKind.i64.wrap c = c := wrap_small (by omega) (by omega)
        have hz1 : (if c.toNat * size = 0 then Pure.pure #[] else do Pure.pure (← zeroValue elem).cells : Sem (Array Value)).run P.prog w = .ok (if c.toNat * size = 0 then #[] else v0.cells) w := by
          split
          · rfl
          · simp [hr0]
        have harr : ((Array.range (c.toNat * size)).map fun x => (if c.toNat * size = 0 then #[] else v0.cells)[x % (if c.toNat * size = 0 then #[] else v0.cells).size]!) = (zeros v0.cells.toList (c.toNat * size)).toArray := by
          apply Array.ext'
          by_cases e : c.toNat * size = 0
          · rw [e]; simp [zeros]
          · rw [if_neg e, ← zeros_arr]
        have hcap : decide (c < 0) = false := by simp; omega
        have hcap2 : decide ((i.bytes : Int) * c > 2 ^ 48) = false := by
          have : (2 : Int) ^ 48 = 281474976710656 := by decide
          simp only [decide_eq_false_iff_not]
          rw [hib]; omega
        have hl0 : decide (l < 0) = false := by simp; omega
        have hlc' : decide (l > c) = false := by simp; omega
        simp only [Instr.makeSlice, Sem.run_bind, run_underlyingD hu, Result.andThen_ok, asInt, asIntOf, Sem.run_pure, run_typeInfoD hi, wl, wc, hcap, hcap2, hl0, hlc', Bool.or_self, Bool.false_eq_true, if_false, run_askRoom,
          run_sizeOfD hs]
        by_cases e : c.toNat * size = 0
        · have er : ∀ f : Nat → Value, Array.map f (Array.range 0) = #[] := fun f => by apply Array.ext'; simp
          simp [e, er, zeros, Go.newRow, pushW]
        · rw [if_neg e] at harr
          simp [e, hr0, harr, Go.newRow, pushW]
      · cases hb
    · cases hb
  · cases hb
end
end Go.Dv
