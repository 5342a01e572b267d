/- Operations that only reckon: what the model's runs come to. -/
import Derived.Test.YtjojemebfojpnaaGreatDoorBhMem
set_option linter.unusedVariables false
set_option linter.unusedSimpArgs false
namespace Go.Dv
open Go

section
variable {P : Types} {M : Mem} {σ : Inj} {S : Store} {w : World}

theorem foldl_over (off : Nat) : ∀ (xs : List Value) (k : Nat) (c : Array Value), off + k + xs.length ≤ c.size →
    (xs.zipIdx k).foldl (fun cs (p : Value × Nat) => cs.setIfInBounds (off + p.2) p.1) c = (over c.toList (off + k) xs).toArray
  | [], k, c, h => by simp [over]
  | x :: xs, k, c, h => by
    simp only [List.zipIdx_cons, List.foldl_cons]
    rw [foldl_over off xs (k + 1) _ (by simp at h ⊢; omega)]
    congr 1
    apply List.ext_getElem?
    intro j
    have hl : off + k + (x :: xs).length ≤ c.toList.length := by simpa using h
    rw [over_get (by simp at h ⊢; omega), over_get hl]
    simp only [Array.toList_setIfInBounds, List.length_cons]
    by_cases h2 : j < off + k
    · rw [if_neg (by omega), if_neg (by omega), List.getElem?_set_ne (by omega)]
    · by_cases h3 : j = off + k
      · subst h3
        rw [if_neg (by omega), if_pos ⟨by omega, by omega⟩]
        have h5 : off + k < c.toList.length := by simp only [List.length_cons] at hl; omega
        rw [List.getElem?_set_self h5, Nat.sub_self]; rfl
      · by_cases h4 : j < off + k + (xs.length + 1)
        · rw [if_pos ⟨by omega, by omega⟩, if_pos ⟨by omega, by omega⟩]
          rw [show j - (off + k) = (j - (off + (k + 1))) + 1 by omega, List.getElem?_cons_succ]
        · rw [if_neg (by omega), if_neg (by omega), List.getElem?_set_ne (by omega)]

theorem VRs.over {cs xs : List DV} {c vs : List Value} {off : Nat} (h : VRs M σ cs c) (g : VRs M σ xs vs) : VRs M σ (splice cs off xs) (Go.Dv.over c off vs) := by
  unfold splice Go.Dv.over
  rw [g.length]
  exact VRs.append (VRs.append (h.drop _) g) (h.take _)

/-- Parts and their values. -/
inductive Parts (M : Mem) (σ : Inj) : List (Nat × DV) → List (Nat × Value) → Prop
  | nil : Parts M σ [] []
  | cons {i : Nat} {d : DV} {v : Value} {ps vs} : VR M σ d v → Parts M σ ps vs → Parts M σ ((i, d) :: ps) ((i, v) :: vs)

theorem fillD_sound (place place' : Nat → Option (Nat × Nat)) (hp : ∀ i q, place i = some q → place' i = some q) : ∀ {ps : List (Nat × DV)} {vs : List (Nat × Value)} {cs r : List DV} {c : Array Value},
    Parts M σ ps vs → VRs M σ cs c.toList → fillD place cs ps = some r → ∃ u, Instr.fill place' c vs = some u ∧ VRs M σ r u.toList
  | _, _, cs, r, c, .nil, h, hf => by simp [fillD] at hf; subst hf; exact ⟨c, rfl, h⟩
  | _, _, cs, r, c, .cons (i := i) (d := d) (v := v) (ps := ps) (vs := vs) hd hr, h, hf => by
    unfold fillD at hf
    split at hf
    · rename_i off size xs hpl hx
      split at hf
      · cases hf
      · rename_i hc
        have hvs := hd.cells hx
        have hl := hvs.length
        have hcl := h.length
        have h1 : ¬ (xs.length ≠ size) := fun e => hc (.inl e)
        have h2 : ¬ (off + xs.length > cs.length) := fun e => hc (.inr e)
        simp only [ne_eq, Classical.not_not] at h1
        simp only [Array.length_toList] at hl hcl
        have e : v.cells.zipIdx.foldl (fun cs (x : Value × Nat) => cs.setIfInBounds (off + x.2) x.1) c = (Go.Dv.over c.toList off v.cells.toList).toArray := by
          rw [← Array.foldl_toList, Array.toList_zipIdx]
          have := foldl_over off v.cells.toList 0 c (by simp; omega)
          simpa using this
        obtain ⟨u, hu, hvu⟩ := fillD_sound place place' hp (c := (Go.Dv.over c.toList off v.cells.toList).toArray) hr (by simpa using VRs.over h hvs) hf
        refine ⟨u, ?_, hvu⟩
        unfold Instr.fill
        rw [hp _ _ hpl]
        simp only
        rw [if_neg (by simp; omega), e]
        exact hu
    · cases hf

theorem run_mapM {α β : Type} {f : α → Sem β} {g : α → β} : ∀ {l : List α}, (∀ a ∈ l, ∀ w, (f a).run P.prog w = .ok (g a) w) → (l.mapM f).run P.prog w = .ok (l.map g) w
  | [], h => by simp
  | a :: l, h => by
    rw [List.mapM_cons]
    simp only [Sem.run_bind, h a (by simp), Result.andThen_ok, run_mapM (l := l) (fun b hb => h b (by simp [hb])), Sem.run_pure, List.map_cons]

theorem buildD_sound {t : TypeId} {ps : List (Nat × DV)} {vs : Array (Nat × Value)} {d : DV} (hp : Parts M σ ps vs.toList) (hb : buildD P t ps = some d) :
    ∃ v, (∀ w, (Instr.build t vs).run P.prog w = .ok v w) ∧ VR M σ d v := by
  unfold buildD at hb
  split at hb
  · rename_i zero hz
    obtain ⟨vz, hrz, hvz⟩ := run_zeroD M σ hz
    cases hvz with
    | agg hzs =>
    rename_i zs
    split at hb
    · rename_i fields hu
      split at hb
      · rename_i hall
        cases hf : fillD (fun i => (fields[i]?).bind fun f => (sizeD P f.type).map fun n => (f.offset, n)) zero ps with
        | none => simp [hf] at hb
        | some r =>
          simp only [hf, Option.map_some, Option.some.injEq] at hb; subst hb
          obtain ⟨u, hu1, hu2⟩ := fillD_sound (M := M) (σ := σ) _ (fun i => ((fields.map fun f => (f.offset, (sizeD P f.type).getD 0))[i]?)) (fun i q hq => by
            cases hfi : fields[i]? with
            | none => simp [hfi] at hq
            | some f =>
              cases hs : sizeD P f.type with
              | none => simp [hfi, hs] at hq
              | some n => simp [hfi, hs] at hq; subst hq; simp [hfi, hs]) (c := zs.toArray) hp (by simpa using hzs) hf
          refine ⟨.agg u, fun w => ?_, by simpa using VR.agg hu2⟩
          have hm : (fields.mapM fun f => do pure (f.offset, ← sizeOf f.type) : Sem _).run P.prog w = .ok (fields.map fun f => (f.offset, (sizeD P f.type).getD 0)) w := by
            rw [Array.mapM_eq_mapM_toList, Sem.run_map, run_mapM (g := fun f => (f.offset, (sizeD P f.type).getD 0)) (fun f hfm w => ?_)]
            · simp only [Result.andThen_ok]
              congr 1
              apply Array.ext'; simp
            · have := List.all_eq_true.1 hall f hfm
              cases hs : sizeD P f.type with
              | none => simp [hs] at this
              | some n => simp [run_sizeOfD hs]
          simp only [Instr.build, Sem.run_bind, hrz, Result.andThen_ok, Value.cells, run_underlyingD hu, hm]
          have : Instr.fill (fun x => (fields.map fun f => (f.offset, (sizeD P f.type).getD 0))[x]?) zs.toArray vs.toList = some u := hu1
          simp only [this]
          rfl
      · cases hb
    · rename_i len elem hu
      cases hs : sizeD P elem with
      | none => simp [hs] at hb
      | some size =>
        simp only [hs, Option.bind_some] at hb
        cases hf : fillD (fun i => some (i * size, size)) zero ps with
        | none => simp [hf] at hb
        | some r =>
          simp only [hf, Option.map_some, Option.some.injEq] at hb; subst hb
          obtain ⟨u, hu1, hu2⟩ := fillD_sound (M := M) (σ := σ) _ (fun i => some (i * size, size)) (fun i q hq => hq) (c := zs.toArray) hp (by simpa using hzs) hf
          refine ⟨.agg u, fun w => ?_, by simpa using VR.agg hu2⟩
          simp only [Instr.build, Sem.run_bind, hrz, Result.andThen_ok, Value.cells, run_underlyingD hu, run_sizeOfD hs, hu1]
          rfl
    · cases hb
  · cases hb

theorem fieldAddrD_sound {t : TypeId} {f : Nat} {x d : DV} {v : Value} (hx : VR M σ x v) (hf : fieldAddrD P t f x = some d) :
    ∃ u, (∀ w, (Instr.fieldAt t v f).run P.prog w = .ok u w) ∧ VR M σ d u := by
  unfold fieldAddrD at hf
  split at hf
  · rename_i fields hu
    split at hf
    · rename_i fd hfd
      split at hf
      · cases hf
      · rename_i n hz hs
        have hne : n ≠ 0 := hz
        cases hx <;> simp only [reduceCtorEq, Option.some.injEq] at hf <;> subst hf
        case look cs β o hc =>
          refine ⟨.pointer (some ⟨β, o + fd.offset, none⟩), fun w => ?_, .look (hc.drop _)⟩
          simp [Instr.fieldAt, run_underlyingD hu, hfd, Instr.sureAddr, fieldPlace, run_sizeOfD hs, hne, addr_add]
        case ref b β k off hb =>
          refine ⟨.pointer (some ⟨β, off + fd.offset, none⟩), fun w => ?_, .ref hb⟩
          simp [Instr.fieldAt, run_underlyingD hu, hfd, Instr.sureAddr, fieldPlace, run_sizeOfD hs, hne, addr_add]
      · cases hf
    · cases hf
  · cases hf

theorem indexAddrD_sound {t : TypeId} {x i d : DV} {v vi : Value} (hx : VR M σ x v) (hi : VR M σ i vi) (hf : indexAddrD P t x i = some d) :
    ∃ u, (∀ w, (Instr.indexAt t v vi).run P.prog w = .ok u w) ∧ VR M σ d u := by
  unfold indexAddrD at hf
  split at hf
  · rename_i ki n
    cases hi
    split at hf
    · rename_i hn
      split at hf
      · rename_i elem rows ex hu
        split at hf
        · rename_i size r hs hr
          split at hf
          · rename_i hl
            injection hf with hf; subst hf
            cases hx with
            | sl hrows h1 h2 =>
            rename_i β o sz c
            obtain ⟨hlr, hcr⟩ := hrows.get hr
            refine ⟨.pointer (some ⟨β, o + n.toNat * sz, none⟩), fun w => ?_, .look hcr⟩
            have hlt := lt_of_lget hr
            have hss : size = sz := by omega
            subst hss
            have hb : 0 ≤ n ∧ n < (rows.length : Int) := ⟨hn, by omega⟩
            simp [Instr.indexAt, asIntOf, run_underlyingD hu, hb, run_sizeOfD hs, addr_add]
          · cases hf
        · cases hf
      · rename_i elem b off sz len cap hu
        split at hf
        · rename_i size hs
          split at hf
          · rename_i hc
            injection hf with hf; subst hf
            obtain ⟨rfl, hlt⟩ := hc
            cases hx with
            | msl hb h1 h2 h3 =>
            rename_i β k c
            refine ⟨.pointer (some ⟨β, off + n.toNat * size, none⟩), fun w => ?_, .ref hb⟩
            have hbn : 0 ≤ n ∧ n < (len : Int) := ⟨hn, by omega⟩
            simp [Instr.indexAt, asIntOf, run_underlyingD hu, hbn, run_sizeOfD hs, addr_add]
          · cases hf
        · cases hf
      · rename_i len elem b off hu
        split at hf
        · rename_i size hs
          split at hf
          · rename_i hlt
            injection hf with hf; subst hf
            cases hx with
            | ref hb =>
            rename_i β k
            refine ⟨.pointer (some ⟨β, off + n.toNat * size, none⟩), fun w => ?_, .ref hb⟩
            have hbn : 0 ≤ n ∧ n < (len : Int) := ⟨hn, by omega⟩
            simp [Instr.indexAt, asIntOf, run_underlyingD hu, hbn, run_sizeOfD hs, addr_add, Instr.sureAddr]
          · cases hf
        · cases hf
      · rename_i len elem cs hu
        split at hf
        · rename_i size hs
          split at hf
          · rename_i hlt
            injection hf with hf; subst hf
            cases hx with
            | look hc =>
            rename_i β o
            refine ⟨.pointer (some ⟨β, o + n.toNat * size, none⟩), fun w => ?_, .look (hc.drop _)⟩
            have hbn : 0 ≤ n ∧ n < (len : Int) := ⟨hn, by omega⟩
            simp [Instr.indexAt, asIntOf, run_underlyingD hu, hbn, run_sizeOfD hs, addr_add, Instr.sureAddr]
          · cases hf
        · cases hf
      · cases hf
    · cases hf
  · cases hf

theorem partD_sound {t : TypeId} {cs : List DV} {vs : List Value} {off : Nat} {d : DV} (h : VRs M σ cs vs) (hf : partD P t cs off = some d) :
    ∃ u, (∀ w, (part t vs.toArray off).run P.prog w = .ok u w) ∧ VR M σ d u := by
  unfold partD at hf
  split at hf
  · rename_i agg n ha hs
    unfold atPlace at hf
    cases agg with
    | false =>
      simp only [Bool.false_eq_true, if_false] at hf
      obtain ⟨v, hv, hr⟩ := h.get hf
      exact ⟨v, fun w => by simp [part, run_isAggD ha, hv], hr⟩
    | true =>
      simp only [if_true] at hf
      cases hx : piece cs off n with
      | none => simp [hx] at hf
      | some xs =>
        simp [hx] at hf; subst hf
        obtain ⟨rfl, hl, hle⟩ := piece_some hx
        have hvl := h.length
        refine ⟨.agg (vs.toArray.extract off (off + n)), fun w => by simp [part, run_isAggD ha, run_sizeOfD hs], ?_⟩
        have : vs.toArray.extract off (off + n) = ((vs.drop off).take n).toArray := by
          apply Array.ext'
          simp [List.extract_eq_take_drop]
        rw [this]
        exact .agg ((h.drop off).take n)
  · cases hf

theorem fieldD_sound {t : TypeId} {f : Nat} {x d : DV} {v : Value} (hx : VR M σ x v) (hf : fieldD P t f x = some d) :
    ∃ u, (∀ w, (Instr.field t v f).run P.prog w = .ok u w) ∧ VR M σ d u := by
  unfold fieldD at hf
  split at hf
  · rename_i fields cs hu
    split at hf
    · rename_i fd hfd
      cases hx with
      | agg h =>
      obtain ⟨u, hr, hv⟩ := partD_sound h hf
      exact ⟨u, fun w => by simp [Instr.field, run_underlyingD hu, hfd, asAgg, hr], hv⟩
    · cases hf
  · cases hf

theorem indexD_sound {t : TypeId} {x i d : DV} {v vi : Value} (hx : VR M σ x v) (hi : VR M σ i vi) (hf : indexD P t x i = some d) :
    ∃ u, (∀ w, (Instr.index t v vi).run P.prog w = .ok u w) ∧ VR M σ d u := by
  unfold indexD at hf
  split at hf
  · rename_i ki n
    cases hi
    split at hf
    · rename_i hn
      split at hf
      · rename_i len elem cs hu
        split at hf
        · rename_i size hs
          split at hf
          · rename_i hlt
            cases hx with
            | agg h =>
            obtain ⟨u, hr, hv⟩ := partD_sound h hf
            have hbn : 0 ≤ n ∧ n < (len : Int) := ⟨hn, by omega⟩
            exact ⟨u, fun w => by simp [Instr.index, asIntOf, run_underlyingD hu, hbn, run_sizeOfD hs, hr], hv⟩
          · cases hf
        · cases hf
      · rename_i s hu
        cases hb : s[n.toNat]? with
        | none => simp [hb] at hf
        | some b =>
          simp [hb] at hf; subst hf
          refine ⟨.int .u8 b.toNat, fun w => ?_, .int _ _⟩
          cases hx
          have hg : ((⟨s.toArray⟩ : ByteArray)[n.toNat]?) = some b := by
            have hlt := lt_of_lget hb
            have h1 : n.toNat < (⟨s.toArray⟩ : ByteArray).size := by simpa [ByteArray.size] using hlt
            rw [getElem?_pos (⟨s.toArray⟩ : ByteArray) n.toNat h1]
            have : s[n.toNat] = b := by rw [List.getElem?_eq_getElem hlt] at hb; injection hb
            simp [ByteArray.getElem_eq_getElem_data, this]
          simp [Instr.index, asIntOf, run_underlyingD hu, hn, hg]
      · cases hf
    · cases hf
  · cases hf
end
end Go.Dv
