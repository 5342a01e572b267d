/- Types asked, cells loaded and stored: what the model's runs come to. -/
import Derived.Test.YtjojemebfojpnaaGreatDoorBhWorld
import Derived.Laws.Cells
set_option linter.unusedVariables false
set_option linter.unusedSimpArgs false
namespace Go.Dv
open Go

/-- One step of the machine's side: what it comes to. -/
structure Step (M : Mem) (σ : Inj) (S : Store) (w : World) (M' : Mem) (σ' : Inj) (S' : Store) (w' : World) : Prop where
  mem : M.le M'
  news : ∀ β o v, M' β o = some v → M β o = some v ∨ w.heap.size ≤ β ∨ ∃ b n, Owns S b ∧ σ b = some (β, n)
  inj : σ.le σ'
  rel : Rel M' σ' S' w'
  keeps : Keeps σ S w w'
  owns : ∀ b β n, Owns S' b → σ' b = some (β, n) → β < w.heap.size → ∃ b' n', Owns S b' ∧ σ b' = some (β, n')

theorem Step.refl {M : Mem} {σ : Inj} {S : Store} {w : World} (h : Rel M σ S w) : Step M σ S w M σ S w :=
  ⟨Mem.le_refl M, fun _ _ _ h => .inl h, Inj.le_refl σ, h, Keeps.refl σ S w, fun b β n ho hb _ => ⟨b, n, ho, hb⟩⟩

theorem Step.trans {M M' M'' : Mem} {σ σ' σ'' : Inj} {S S' S'' : Store} {w w' w'' : World} (h : Step M σ S w M' σ' S' w') (g : Step M' σ' S' w' M'' σ'' S'' w'') :
    Step M σ S w M'' σ'' S'' w'' :=
  ⟨Mem.le_trans h.mem g.mem, fun β o v hm => by
    rcases g.news β o v hm with h1 | h1 | ⟨b, n, ho, hb⟩
    · exact h.news β o v h1
    · exact .inr (.inl (Nat.le_trans h.keeps.size h1))
    · by_cases hβ : β < w.heap.size
      · obtain ⟨b', n', ho', hb'⟩ := h.owns b β n ho hb hβ
        exact .inr (.inr ⟨b', n', ho', hb'⟩)
      · exact .inr (.inl (by omega)), Inj.le_trans h.inj g.inj, g.rel, h.keeps.trans (M' := M') g.keeps h.owns, fun b β n ho hb hβ => by
    obtain ⟨b', n', ho', hb'⟩ := g.owns b β n ho hb (Nat.lt_of_lt_of_le hβ h.keeps.size)
    exact h.owns b' β n' ho' hb' hβ⟩

section types
variable {P : Types} {w : World} {t : TypeId}

theorem run_typeInfoD {i : TypeInfo} (h : P.info? t = some i) : (typeInfo t).run P.prog w = .ok i w := by
  simp [typeInfo, P.ok _ _ h]
theorem run_underlyingD {d : TypeDesc} (h : P.underlying t = some d) : (underlying t).run P.prog w = .ok d w := by
  simp [underlying, Types.und h]
theorem run_sizeOfD {n : Nat} (h : sizeD P t = some n) : (sizeOf t).run P.prog w = .ok n w := by
  unfold sizeD at h
  cases hi : P.info? t with
  | none => simp [hi] at h
  | some i => simp [hi] at h; simp [sizeOf, run_typeInfoD hi, h]
theorem run_bytesD {n : Nat} (h : bytesD P t = some n) : ∃ i, P.info? t = some i ∧ i.bytes = n := by
  unfold bytesD at h
  cases hi : P.info? t with
  | none => simp [hi] at h
  | some i => simp [hi] at h; exact ⟨i, rfl, h⟩
theorem sizeD_info {n : Nat} (h : sizeD P t = some n) : ∃ i, P.info? t = some i ∧ i.size = n := by
  unfold sizeD at h
  cases hi : P.info? t with
  | none => simp [hi] at h
  | some i => simp [hi] at h; exact ⟨i, rfl, h⟩
theorem run_isAggD {b : Bool} (h : aggD P t = some b) : (isAgg t).run P.prog w = .ok b w := by
  unfold aggD at h
  cases hd : P.underlying t with
  | none => simp [hd] at h
  | some d => simp only [hd, Option.map_some, Option.some.injEq] at h; cases d <;> simp_all [isAgg, run_underlyingD hd]
theorem run_zeroD {d : DV} (M : Mem) (σ : Inj) (h : zeroD P t = some d) : ∃ v, (∀ w, (zeroValue t).run P.prog w = .ok v w) ∧ VR M σ d v := by
  unfold zeroD at h
  cases hi : P.info? t with
  | none => simp [hi] at h
  | some i =>
    cases hz : i.zero with
    | none => simp [hi, hz] at h
    | some v => 
      simp only [hi, hz, Option.bind_some] at h
      exact ⟨v, fun w => by simp [zeroValue, run_typeInfoD hi, hz], zdv_vr h⟩
theorem zdv_under {v : Value} {d : DV} (h : zdv v = some d) : d.under 0 = true := by
  unfold zdv at h
  split at h
  · rename_i cs
    cases hz : zcells cs.toList with
    | none => simp [hz] at h
    | some ds => simp [hz] at h; subst h; simpa [DV.under] using zcells_under hz
  · exact zcell_under h
theorem zeroD_under {d : DV} (h : zeroD P t = some d) : d.under 0 = true := by
  unfold zeroD at h
  cases hi : (P.info? t).bind (·.zero) with
  | none => simp [hi] at h
  | some v => simp only [hi, Option.bind_some] at h; exact zdv_under h
end types

/-- From a place on cells hold what a list says. -/
def Cells (M : Mem) (σ : Inj) (w : World) (β o : Nat) (cs : List DV) : Prop :=
  ∀ (i : Nat) (d : DV), cs[i]? = some d → ∃ v, w.cell? ⟨β, o + i, none⟩ = some v ∧ VR M σ d v

theorem Rel.look {M : Mem} {σ : Inj} {S : Store} {w : World} (h : Rel M σ S w) {β o : Nat} {cs : List DV} (hc : VCells M β o cs) : Cells M σ w β o cs := fun i d hd => by
  obtain ⟨v, hv, hr⟩ := hc.get hd
  exact ⟨v, h.mem _ _ _ hv, hr.mono (Mem.le_refl M) (noInj_le σ)⟩

theorem Rel.cellsAt {M : Mem} {σ : Inj} {S : Store} {w : World} (h : Rel M σ S w) {b β n : Nat} {cs : List DV} {k : Kind} (hb : σ b = some (β, n)) (hs : S[b]? = some (.cells cs k)) :
    Cells M σ w β 0 cs := fun i d hd => by
  obtain ⟨β', c, el, fz, h1, h2, _, _, h5, _⟩ := h.box b _ hs
  rw [hb] at h1; injection h1 with h1; injection h1 with h1 h1'; subst h1
  obtain ⟨v, hv, hr⟩ := h5 i d hd
  exact ⟨v, by rw [Nat.zero_add, cell?_at h2]; exact hv, hr⟩

theorem Cells.shift {M : Mem} {σ : Inj} {w : World} {β o : Nat} {cs : List DV} (h : Cells M σ w β o cs) (n : Nat) : Cells M σ w β (o + n) (cs.drop n) := fun i d hd => by
  rw [List.getElem?_drop] at hd
  obtain ⟨v, hv, hr⟩ := h _ _ hd
  exact ⟨v, by rw [← hv]; congr 2; omega, hr⟩

theorem Cells.take {M : Mem} {σ : Inj} {w : World} {β o : Nat} {cs : List DV} (h : Cells M σ w β o cs) (n : Nat) : Cells M σ w β o (cs.take n) := fun i d hd => by
  rw [List.getElem?_take] at hd
  split at hd
  · exact h _ _ hd
  · cases hd

/-- Their values, in a list. -/
theorem Cells.values {M : Mem} {σ : Inj} {w : World} {β : Nat} : ∀ {cs : List DV} {o : Nat}, Cells M σ w β o cs →
    ∃ vs : List Value, VRs M σ cs vs ∧ ∀ (i : Nat) (v : Value), vs[i]? = some v → w.cell? ⟨β, o + i, none⟩ = some v
  | [], o, _ => ⟨[], .nil, fun i v h => by simp at h⟩
  | d :: cs, o, h => by
    obtain ⟨v, hv, hr⟩ := h 0 d rfl
    have h' : Cells M σ w β (o + 1) cs := fun i d hd => by
      obtain ⟨v, hv, hr⟩ := h (i + 1) d (by simpa using hd)
      exact ⟨v, by rw [← hv]; congr 2; omega, hr⟩
    obtain ⟨vs, hvs, hget⟩ := Cells.values h'
    refine ⟨v :: vs, .cons hr hvs, fun i u hu => ?_⟩
    cases i with
    | zero => simp at hu; subst hu; exact hv
    | succ i => simp at hu; rw [← hget i u hu]; congr 2; omega

theorem addr_add (β o n : Nat) : (⟨β, o, none⟩ : Addr).add n = ⟨β, o + n, none⟩ := by
  unfold Addr.add; split
  · rename_i h; subst h; rfl
  · rfl

theorem run_loadCellsD {P : Types} {M : Mem} {σ : Inj} {w : World} {β o : Nat} {cs : List DV} (h : Cells M σ w β o cs) :
    ∃ vs : List Value, (loadCells ⟨β, o, none⟩ cs.length).run P.prog w = .ok vs.toArray w ∧ VRs M σ cs vs := by
  obtain ⟨vs, hvs, hget⟩ := h.values
  refine ⟨vs, ?_, hvs⟩
  rw [hvs.length]
  exact run_loadCells_list w _ _ fun j v hj => by rw [addr_add]; exact hget j v hj

theorem piece_some {cs xs : List DV} {off n : Nat} (h : piece cs off n = some xs) : xs = (cs.drop off).take n ∧ xs.length = n ∧ off + n ≤ cs.length := by
  unfold piece at h
  split at h
  · injection h with h; subst h
    refine ⟨rfl, by simp; omega, by omega⟩
  · cases h

theorem run_loadVarD {P : Types} {M : Mem} {σ : Inj} {w : World} {β o off : Nat} {cs : List DV} (h : Cells M σ w β o cs) {t : TypeId} {agg : Bool} {n : Nat} {d : DV}
    (ha : aggD P t = some agg) (hn : sizeD P t = some n) (hp : atPlace cs off agg n = some d) :
    ∃ v, (loadVar t ⟨β, o + off, none⟩).run P.prog w = .ok v w ∧ VR M σ d v := by
  unfold atPlace at hp
  cases agg with
  | false =>
    simp only [Bool.false_eq_true, if_false] at hp
    obtain ⟨v, hv, hr⟩ := h _ _ hp
    exact ⟨v, by simp [loadVar, run_isAggD ha, hv], hr⟩
  | true =>
    simp only [if_true] at hp
    cases hx : piece cs off n with
    | none => simp [hx] at hp
    | some xs =>
      simp [hx] at hp; subst hp
      obtain ⟨rfl, hl, _⟩ := piece_some hx
      obtain ⟨vs, hrun, hvs⟩ := run_loadCellsD (P := P) ((h.shift off).take n)
      rw [hl] at hrun
      exact ⟨.agg vs.toArray, by simp [loadVar, run_isAggD ha, run_sizeOfD hn, hrun], .agg hvs⟩

theorem loadD_sound {P : Types} {M : Mem} {σ : Inj} {S : Store} {w : World} (h : Rel M σ S w) {t : TypeId} {agg : Bool} {n : Nat} {a d : DV} {v : Value}
    (ha : aggD P t = some agg) (hn : sizeD P t = some n) (hv : VR M σ a v) (hl : loadD agg n S a = some d) :
    ∃ u, (Instr.loadAt t v).run P.prog w = .ok u w ∧ VR M σ d u := by
  cases hv <;> simp only [loadD, reduceCtorEq] at hl
  case look cs β o hc =>
    obtain ⟨u, hu, hr⟩ := run_loadVarD (P := P) (off := 0) (h.look hc) ha hn hl
    exact ⟨u, by simpa [Instr.loadAt, Instr.sureAddr] using hu, hr⟩
  case ref b β k off hb =>
    split at hl
    · rename_i cs kd hs
      obtain ⟨u, hu, hr⟩ := run_loadVarD (P := P) (off := off) (h.cellsAt hb hs) ha hn hl
      exact ⟨u, by simpa [Instr.loadAt, Instr.sureAddr] using hu, hr⟩
    · cases hl

/-- A row of cells, with others laid over a piece of it. -/
def over (c : List Value) (o : Nat) (vs : List Value) : List Value := c.take o ++ (vs ++ c.drop (o + vs.length))

theorem over_length {c vs : List Value} {o : Nat} (h : o + vs.length ≤ c.length) : (over c o vs).length = c.length := by
  simp [over]; omega

theorem over_get {c vs : List Value} {o : Nat} (h : o + vs.length ≤ c.length) (j : Nat) : (over c o vs)[j]? = if o ≤ j ∧ j < o + vs.length then vs[j - o]? else c[j]? := by
  unfold over
  by_cases h1 : j < o
  · rw [List.getElem?_append_left (by simp; omega), List.getElem?_take, if_pos h1, if_neg (by omega)]
  · rw [List.getElem?_append_right (by simp; omega)]
    have e : j - (c.take o).length = j - o := by simp; omega
    rw [e]
    by_cases h2 : j < o + vs.length
    · rw [List.getElem?_append_left (by omega), if_pos ⟨by omega, h2⟩]
    · rw [List.getElem?_append_right (by omega), List.getElem?_drop, if_neg (by omega)]
      congr 1; omega

theorem run_storeCellsD {P : Types} {β el : Nat} {fz : Nat × Nat} {o : Nat} : ∀ (vs : List Value) (i : Nat) (c : Array Value) (w : World), w.heap[β]? = some (.cells c el fz) →
    o + i + vs.length ≤ c.size → (∀ j, j < c.size → o ≤ j → ¬ (fz.1 ≤ j ∧ j < fz.2)) → (∀ v ∈ vs, v.oneCell' = true) →
    (storeCells ⟨β, o, none⟩ vs i).run P.prog w = .ok () (setW w β (.cells (over c.toList (o + i) vs).toArray el fz))
  | [], i, c, w, hc, hl, hf, h1 => by
    have e : setW w β (.cells (over c.toList (o + i) []).toArray el fz) = w := by
      have : (over c.toList (o + i) []).toArray = c := by simp [over]
      rw [this]
      unfold setW
      have hlt := lt_of_get hc
      have : w.heap.setIfInBounds β (.cells c el fz) = w.heap := by
        apply Array.ext_getElem?
        intro j
        by_cases hj : β = j
        · subst hj; rw [Array.getElem?_setIfInBounds_self, if_pos hlt, hc]
        · rw [Array.getElem?_setIfInBounds_ne hj]
      rw [this]
    rw [e]; rfl
  | v :: vs, i, c, w, hc, hl, hf, h1 => by
    have hlt := lt_of_get hc
    have hi : o + i < c.size := by simp at hl; omega
    have hcell : w.cell? ⟨β, o + i, none⟩ = some c[o + i] := by rw [cell?_at hc]; simp [hi]
    have hfro : w.frozen? ⟨β, o + i, none⟩ = false := by
      have := hf (o + i) hi (by omega)
      simp only [World.frozen?, hc]
      simp only [Bool.and_eq_false_iff, decide_eq_false_iff_not]
      omega
    have hset : w.setCell ⟨β, o + i, none⟩ v = setW w β (.cells (c.setIfInBounds (o + i) v) el fz) := by
      unfold World.setCell setW
      congr 1
      apply Array.ext_getElem?
      intro j
      rw [Array.getElem?_modify]
      by_cases hj : β = j
      · subst hj; simp [hlt, hc]
        have : w.heap[β] = .cells c el fz := by have := hc; rw [Array.getElem?_eq_getElem hlt] at this; injection this
        simp [this]
      · rw [Array.getElem?_setIfInBounds_ne hj]
        simp [hj]
    simp only [storeCells, Sem.run_bind, addr_add, run_store P.prog w _ v _ (h1 v (by simp)), hcell, hfro, Bool.false_eq_true, if_false, Result.andThen_ok, hset]
    have hc' : (setW w β (.cells (c.setIfInBounds (o + i) v) el fz)).heap[β]? = some (.cells (c.setIfInBounds (o + i) v) el fz) := setW_same hlt
    rw [run_storeCellsD vs (i + 1) _ _ hc' (by simp at hl ⊢; omega) (by simpa using hf) (fun u hu => h1 u (by simp [hu]))]
    congr 1
    have e1 : setW (setW w β (.cells (c.setIfInBounds (o + i) v) el fz)) β (.cells (over (c.setIfInBounds (o + i) v).toList (o + (i + 1)) vs).toArray el fz)
        = setW w β (.cells (over (c.setIfInBounds (o + i) v).toList (o + (i + 1)) vs).toArray el fz) := by
      unfold setW; simp
    rw [e1]
    congr 3
    apply List.ext_getElem?
    intro j
    have hl' : o + i + (v :: vs).length ≤ c.toList.length := by simpa using hl
    rw [over_get hl', over_get (by simp at hl ⊢; omega)]
    simp only [Array.toList_setIfInBounds, List.length_cons]
    by_cases h2 : j < o + i
    · rw [if_neg (by omega), if_neg (by omega), List.getElem?_set_ne (by omega)]
    · by_cases h3 : j = o + i
      · subst h3
        rw [if_neg (by omega), if_pos ⟨by omega, by omega⟩]
        simp [hi]
      · by_cases h4 : j < o + i + (vs.length + 1)
        · rw [if_pos ⟨by omega, by omega⟩, if_pos ⟨by omega, by omega⟩]
          rw [show j - (o + i) = (j - (o + (i + 1))) + 1 by omega, List.getElem?_cons_succ]
        · rw [if_neg (by omega), if_neg (by omega), List.getElem?_set_ne (by omega)]

theorem splice_length {c vs : List DV} {o : Nat} (h : o + vs.length ≤ c.length) : (splice c o vs).length = c.length := by
  simp [splice]; omega

theorem splice_get {c vs : List DV} {o : Nat} (h : o + vs.length ≤ c.length) (j : Nat) : (splice c o vs)[j]? = if o ≤ j ∧ j < o + vs.length then vs[j - o]? else c[j]? := by
  unfold splice
  by_cases h1 : j < o
  · rw [List.getElem?_append_left (by simp; omega), List.getElem?_take, if_pos h1, if_neg (by omega)]
  · rw [List.getElem?_append_right (by simp; omega)]
    have e : j - (c.take o).length = j - o := by simp; omega
    rw [e]
    by_cases h2 : j < o + vs.length
    · rw [List.getElem?_append_left (by omega), if_pos ⟨by omega, h2⟩]
    · rw [List.getElem?_append_right (by omega), List.getElem?_drop, if_neg (by omega)]
      congr 1; omega

theorem oneCell_eq (v : Value) : oneCell v = v.oneCell' := by cases v <;> rfl

theorem VRs.atoms {M : Mem} {σ : Inj} : ∀ {ds : List DV} {vs : List Value}, VRs M σ ds vs → ds.all DV.atom = true → ∀ v ∈ vs, v.oneCell' = true
  | _, _, .nil, _ => by simp
  | _, _, .cons h1 h2, ha => by
    simp only [List.all_cons, Bool.and_eq_true] at ha
    intro v hv
    simp only [List.mem_cons] at hv
    rcases hv with rfl | hv
    · rw [← oneCell_eq]; exact h1.atom ha.1
    · exact VRs.atoms h2 ha.2 v hv

/-- Cells are laid over a piece of a box. -/
theorem storeBox {P : Types} {M : Mem} {σ : Inj} {S : Store} {w : World} (h : Rel M σ S w) {b β n off : Nat} {cs xs : List DV} {vs : List Value} {k : Kind}
    (hb : σ b = some (β, n)) (hs : S[b]? = some (.cells cs k)) (hk : k.open = true) (hl : off + xs.length ≤ cs.length) (hx : VRs M σ xs vs) (ha : xs.all DV.atom = true) :
    ∃ w', (storeCells ⟨β, off, none⟩ vs).run P.prog w = .ok () w' ∧ Step M σ S w M σ (S.set b (.cells (splice cs off xs) k)) w' := by
  obtain ⟨β', c, el, fz, h1, h2, h3, h4, h5, h6, h7, h8⟩ := h.box b _ hs
  rw [hb] at h1; injection h1 with h1; injection h1 with h1 h1'; subst h1
  have hxl := hx.length
  have hko := hk
  have hk : k ≠ .fixed := fun e => by subst e; simp [Kind.open] at hko
  have hlc : off + vs.length ≤ c.toList.length := by simp; omega
  have hrun := run_storeCellsD (P := P) (o := off) vs 0 c w h2 (by simp; simp at hlc; omega) (fun j hj _ q => (h6 hk).2 j hj (fun e => by rw [hko] at e; cases e) ⟨fun _ => q.1, q.2⟩) (hx.atoms ha)
  simp only [Nat.add_zero] at hrun
  have ho : Owns S b := .inl ⟨_, _, hs, hk⟩
  have hbox : BoxAt M σ (setW w β (.cells (over c.toList off vs).toArray el fz)) b (.cells (splice cs off xs) k) := by
    refine ⟨β, (over c.toList off vs).toArray, el, fz, ?_, setW_same (lt_of_get h2), ?_, fun t e => ?_, fun j d hj => ?_, fun _ => ⟨(h6 hk).1, fun o ho ho2 => (h6 hk).2 o ?_ (fun e => by rw [hko] at e; cases e)⟩, fun e => absurd e hk, h8⟩
    · rw [hb]; simp [over_length hlc, h1']
    · rw [splice_length hl]; simp [over_length hlc]; exact h3
    · rw [splice_length hl]; simp [over_length hlc]; exact h4 t e
    · rw [splice_get hl] at hj
      simp only [List.getElem?_toArray]
      rw [over_get hlc]
      rw [hxl] at hj
      split at hj
      · rename_i hr; rw [if_pos hr]; exact hx.get hj
      · rename_i hr; rw [if_neg hr]
        obtain ⟨v, hv, hr⟩ := h5 j d hj
        exact ⟨v, by simpa using hv, hr⟩
    · simpa [over_length hlc] using ho
  obtain ⟨hrel, hkeep⟩ := h.turn ho hb _ _ hbox
  refine ⟨_, hrun, Mem.le_refl M, fun _ _ _ h => .inl h, Inj.le_refl σ, hrel, hkeep, fun c γ m hoc hc hγ => ⟨c, m, ?_, hc⟩⟩
  by_cases e : c = b
  · subst e; exact ho
  · rcases hoc with ⟨cs, k, hy, hk⟩ | ⟨es, k, hy⟩ | ⟨s, p, hy⟩ <;> rw [List.getElem?_set_ne (Ne.symm e)] at hy
    · exact .inl ⟨_, _, hy, hk⟩
    · exact .inr (.inl ⟨_, _, hy⟩)
    · exact .inr (.inr ⟨_, _, hy⟩)

theorem storeD_sound {P : Types} {M : Mem} {σ : Inj} {S S' : Store} {w : World} (h : Rel M σ S w) {t : TypeId} {ro lim n bw : Nat} {a x : DV} {va vx : Value}
    (hn : sizeD P t = some n) (ha : VR M σ a va) (hx : VR M σ x vx) (hl : storeD ro lim n S a x = some (bw, S')) :
    ∃ w', (Instr.storeAt t va vx).run P.prog w = .ok () w' ∧ Step M σ S w M σ S' w' := by
  unfold storeD at hl
  split at hl
  · rename_i b off
    cases ha with
    | ref hb =>
    split at hl
    · rename_i cs k hs
      split at hl
      · rename_i xs
        split at hl
        · rename_i hc
          simp only [Option.some.injEq, Prod.mk.injEq] at hl; obtain ⟨rfl, rfl⟩ := hl
          obtain ⟨h1, h2, h3, h4, h5⟩ := hc
          cases hx with
          | agg hvs =>
            rename_i vs
            obtain ⟨w', hrun, hst⟩ := storeBox (P := P) h hb hs h3 (off := off) (xs := xs) (by omega) hvs h4
            refine ⟨w', ?_, hst⟩
            have hvl : vs.length = n := by rw [← hvs.length]; exact h1
            simp [Instr.storeAt, Instr.sureAddr, storeVar, run_sizeOfD hn, Value.cells, hvl, hrun]
        · cases hl
      · rename_i hna
        split at hl
        · rename_i hc
          simp only [Option.some.injEq, Prod.mk.injEq] at hl; obtain ⟨rfl, rfl⟩ := hl
          obtain ⟨h1, h2, h3, h4, h5⟩ := hc
          have h4' : [x].all DV.atom = true := by simp [h4]
          obtain ⟨w', hrun, hst⟩ := storeBox (P := P) h hb hs h3 (off := off) (xs := [x]) (by simp; omega) (.cons hx .nil) h4'
          have hsp : splice cs off [x] = cs.set off x := by
            apply List.ext_getElem?
            intro j
            rw [splice_get (by simp; omega)]
            by_cases hj : j = off
            · subst hj; simp [h2]
            · rw [if_neg (by simp; omega), List.getElem?_set_ne (by omega)]
          rw [hsp] at hst
          refine ⟨w', ?_, hst⟩
          have hcell : vx.cells = #[vx] := by
            have := hx.atom h4
            cases vx <;> simp_all [Value.cells, oneCell]
          simp [Instr.storeAt, Instr.sureAddr, storeVar, run_sizeOfD hn, hcell, h1, hrun]
        · cases hl
    · cases hl
  · cases hl
end Go.Dv
