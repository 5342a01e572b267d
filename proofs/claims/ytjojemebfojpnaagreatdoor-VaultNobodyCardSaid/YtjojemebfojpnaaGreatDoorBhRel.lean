/- How data values stand to the model's values, and a store to a world. -/
import Derived.Test.YtjojemebfojpnaaGreatDoorBhDv
set_option linter.unusedVariables false
namespace Go.Dv
open Go

/-- Cells that are not written any more. -/
abbrev Mem := Nat → Nat → Option Value
/-- Where a box of the store lies: its block, and how many cells that has. -/
abbrev Inj := Nat → Option (Nat × Nat)

def noInj : Inj := fun _ => none

mutual
inductive VR (M : Mem) : Inj → DV → Value → Prop
  | undef {σ} (v : Value) : VR M σ .undef v
  | bool {σ} (b : Bool) : VR M σ (.bool b) (.bool b)
  | int {σ} (k : IntKind) (n : Int) : VR M σ (.int k n) (.int k n)
  | str {σ} (s : List UInt8) : VR M σ (.str s) (.string ⟨s.toArray⟩)
  | agg {σ} {cs : List DV} {vs : List Value} : VRs M σ cs vs → VR M σ (.agg cs) (.agg vs.toArray)
  | tup {σ} {cs : List DV} {vs : List Value} : VRs M σ cs vs → VR M σ (.tup cs) (.tuple vs.toArray)
  | nilp {σ} : VR M σ .nilp (.pointer none)
  | look {σ} {cs : List DV} {β o : Nat} : VCells M β o cs → VR M σ (.look cs) (.pointer (some ⟨β, o, none⟩))
  | ref {σ} {b β n off : Nat} : σ b = some (β, n) → VR M σ (.ref b off) (.pointer (some ⟨β, off, none⟩))
  | nils {σ} : VR M σ .nils (.slice none 0 0)
  | sl {σ} {rows : List (List DV)} {ex : Bool} {β o sz c : Nat} : VRows M β o sz rows → rows.length ≤ c → (ex = true → c = rows.length) →
      VR M σ (.sl rows ex) (.slice (some ⟨β, o, none⟩) rows.length c)
  | msl {σ} {b β n off sz len c : Nat} {cap : Option Nat} : σ b = some (β, n) → len ≤ c → (∀ k, cap = some k → c = k) → (cap = none → off + c * sz = n) →
      VR M σ (.msl b off sz len cap) (.slice (some ⟨β, off, none⟩) len c)
  | nilm {σ} : VR M σ .nilm (.map none)
  | mref {σ} {b β n : Nat} : σ b = some (β, n) → VR M σ (.mref b) (.map (some β))
  | nilf {σ} : VR M σ .nilf .nilFunc
  | fn {σ} {f : Fn} {a b : List DV} {va vb : List Value} : VRs M σ a va → VRs M σ b vb → VR M σ (.fn f a b) (.func f va.toArray vb.toArray)
  | nili {σ} : VR M σ .nili .nilIface
  | iface {σ} {t : TypeId} {d : DV} {v : Value} : VR M σ d v → VR M σ (.iface t d) (.iface t v)
  | iter {σ} {b β n : Nat} : σ b = some (β, n) → VR M σ (.iter b) (.pointer (some ⟨β, 0, none⟩))
inductive VRs (M : Mem) : Inj → List DV → List Value → Prop
  | nil {σ} : VRs M σ [] []
  | cons {σ} {d : DV} {v : Value} {ds : List DV} {vs : List Value} : VR M σ d v → VRs M σ ds vs → VRs M σ (d :: ds) (v :: vs)
inductive VCells (M : Mem) : Nat → Nat → List DV → Prop
  | nil {β o} : VCells M β o []
  | cons {β o} {d : DV} {v : Value} {ds : List DV} : M β o = some v → VR M noInj d v → VCells M β (o + 1) ds → VCells M β o (d :: ds)
inductive VRows (M : Mem) : Nat → Nat → Nat → List (List DV) → Prop
  | nil {β o sz} : VRows M β o sz []
  | cons {β o sz} {r : List DV} {rs : List (List DV)} : r.length = sz → VCells M β o r → VRows M β (o + sz) sz rs → VRows M β o sz (r :: rs)
end

def Mem.le (M M' : Mem) : Prop := ∀ β o v, M β o = some v → M' β o = some v
def Inj.le (σ σ' : Inj) : Prop := ∀ b p, σ b = some p → σ' b = some p

theorem Mem.le_refl (M : Mem) : M.le M := fun _ _ _ h => h
theorem Mem.le_trans {A B C : Mem} (h : A.le B) (g : B.le C) : A.le C := fun _ _ _ x => g _ _ _ (h _ _ _ x)
theorem Inj.le_refl (σ : Inj) : σ.le σ := fun _ _ h => h
theorem Inj.le_trans {A B C : Inj} (h : A.le B) (g : B.le C) : A.le C := fun _ _ x => g _ _ (h _ _ x)
theorem noInj_le (σ : Inj) : noInj.le σ := fun _ _ h => by cases h

mutual
theorem VR.mono {M M' : Mem} (hM : M.le M') {σ σ' : Inj} (hσ : σ.le σ') {d : DV} {v : Value} (h : VR M σ d v) : VR M' σ' d v := by
  cases h with
  | undef v => exact .undef v
  | bool b => exact .bool b
  | int k n => exact .int k n
  | str s => exact .str s
  | agg h => exact .agg (VRs.mono hM hσ h)
  | tup h => exact .tup (VRs.mono hM hσ h)
  | nilp => exact .nilp
  | look h => exact .look (VCells.mono hM h)
  | ref h => exact .ref (hσ _ _ h)
  | nils => exact .nils
  | sl h h1 h2 => exact .sl (VRows.mono hM h) h1 h2
  | msl h h1 h2 h3 => exact .msl (hσ _ _ h) h1 h2 h3
  | nilm => exact .nilm
  | mref h => exact .mref (hσ _ _ h)
  | nilf => exact .nilf
  | fn h h1 => exact .fn (VRs.mono hM hσ h) (VRs.mono hM hσ h1)
  | nili => exact .nili
  | iface h => exact .iface (VR.mono hM hσ h)
  | iter h => exact .iter (hσ _ _ h)
theorem VRs.mono {M M' : Mem} (hM : M.le M') {σ σ' : Inj} (hσ : σ.le σ') {ds : List DV} {vs : List Value} (h : VRs M σ ds vs) : VRs M' σ' ds vs := by
  cases h with
  | nil => exact .nil
  | cons h h1 => exact .cons (VR.mono hM hσ h) (VRs.mono hM hσ h1)
theorem VCells.mono {M M' : Mem} (hM : M.le M') {β o : Nat} {ds : List DV} (h : VCells M β o ds) : VCells M' β o ds := by
  cases h with
  | nil => exact .nil
  | cons h h1 h2 => exact .cons (hM _ _ _ h) (VR.mono hM (Inj.le_refl _) h1) (VCells.mono hM h2)
theorem VRows.mono {M M' : Mem} (hM : M.le M') {β o sz : Nat} {rs : List (List DV)} (h : VRows M β o sz rs) : VRows M' β o sz rs := by
  cases h with
  | nil => exact .nil
  | cons h h1 h2 => exact .cons h (VCells.mono hM h1) (VRows.mono hM h2)
end

theorem VRs.length {M : Mem} {σ : Inj} : ∀ {ds : List DV} {vs : List Value}, VRs M σ ds vs → ds.length = vs.length
  | _, _, .nil => rfl
  | _, _, .cons _ h => by simp [VRs.length h]

theorem VRs.get {M : Mem} {σ : Inj} : ∀ {ds : List DV} {vs : List Value}, VRs M σ ds vs → ∀ {i : Nat} {d : DV}, ds[i]? = some d → ∃ v, vs[i]? = some v ∧ VR M σ d v
  | _, _, .nil, i, d, h => by simp at h
  | _, _, .cons h1 h2, 0, d, h => by simp at h; subst h; exact ⟨_, rfl, h1⟩
  | _, _, .cons h1 h2, i + 1, d, h => by simp at h; simpa using VRs.get h2 h

theorem VRs.append {M : Mem} {σ : Inj} {es : List DV} {us : List Value} (g : VRs M σ es us) : ∀ {ds : List DV} {vs : List Value}, VRs M σ ds vs → VRs M σ (ds ++ es) (vs ++ us)
  | _, _, .nil => g
  | _, _, .cons h1 h2 => .cons h1 (VRs.append g h2)

theorem VRs.take {M : Mem} {σ : Inj} : ∀ (n : Nat) {ds : List DV} {vs : List Value}, VRs M σ ds vs → VRs M σ (ds.take n) (vs.take n)
  | 0, _, _, _ => by simp; exact .nil
  | n + 1, _, _, .nil => by simp; exact .nil
  | n + 1, _, _, .cons h1 h2 => by simp; exact .cons h1 (VRs.take n h2)

theorem VRs.drop {M : Mem} {σ : Inj} : ∀ (n : Nat) {ds : List DV} {vs : List Value}, VRs M σ ds vs → VRs M σ (ds.drop n) (vs.drop n)
  | 0, _, _, h => by simpa using h
  | n + 1, _, _, .nil => by simp; exact .nil
  | n + 1, _, _, .cons h1 h2 => by simpa using VRs.drop n h2

theorem VRs.set {M : Mem} {σ : Inj} {e : DV} {u : Value} (g : VR M σ e u) : ∀ (n : Nat) {ds : List DV} {vs : List Value}, VRs M σ ds vs → VRs M σ (ds.set n e) (vs.set n u)
  | 0, _, _, .nil => .nil
  | 0, _, _, .cons h1 h2 => .cons g h2
  | n + 1, _, _, .nil => .nil
  | n + 1, _, _, .cons h1 h2 => .cons h1 (VRs.set g n h2)

theorem VRs.of_get {M : Mem} {σ : Inj} : ∀ {ds : List DV} {vs : List Value}, ds.length = vs.length → (∀ (i : Nat) (d : DV) (v : Value), ds[i]? = some d → vs[i]? = some v → VR M σ d v) → VRs M σ ds vs
  | [], [], _, _ => .nil
  | d :: ds, v :: vs, hl, h => .cons (h 0 d v rfl rfl) (VRs.of_get (by simpa using hl) fun i d v h1 h2 => h (i + 1) d v (by simpa using h1) (by simpa using h2))

/-- A map of the places of boxes, below n alone. -/
def Inj.cut (σ : Inj) (n : Nat) : Inj := fun b => if b < n then σ b else none

theorem Inj.cut_le (σ : Inj) (n : Nat) : (σ.cut n).le σ := fun b p h => by
  unfold Inj.cut at h; split at h
  · exact h
  · cases h

mutual
theorem VR.cut {M : Mem} {σ : Inj} {n : Nat} {d : DV} {v : Value} (h : VR M σ d v) (hu : d.under n = true) : VR M (σ.cut n) d v := by
  cases h with
  | undef v => exact .undef v
  | bool b => exact .bool b
  | int k n => exact .int k n
  | str s => exact .str s
  | agg h => exact .agg (VRs.cut h (by simpa [DV.under] using hu))
  | tup h => exact .tup (VRs.cut h (by simpa [DV.under] using hu))
  | nilp => exact .nilp
  | look h => exact .look h
  | ref h => exact .ref (by unfold Inj.cut; rw [if_pos (by simpa [DV.under] using hu)]; exact h)
  | nils => exact .nils
  | sl h h1 h2 => exact .sl h h1 h2
  | msl h h1 h2 h3 => exact .msl (by unfold Inj.cut; rw [if_pos (by simpa [DV.under] using hu)]; exact h) h1 h2 h3
  | nilm => exact .nilm
  | mref h => exact .mref (by unfold Inj.cut; rw [if_pos (by simpa [DV.under] using hu)]; exact h)
  | nilf => exact .nilf
  | fn h h1 =>
    simp only [DV.under, Bool.and_eq_true] at hu
    exact .fn (VRs.cut h hu.1) (VRs.cut h1 hu.2)
  | nili => exact .nili
  | iface h => exact .iface (VR.cut h (by simpa [DV.under] using hu))
  | iter h => exact .iter (by unfold Inj.cut; rw [if_pos (by simpa [DV.under] using hu)]; exact h)
theorem VRs.cut {M : Mem} {σ : Inj} {n : Nat} {ds : List DV} {vs : List Value} (h : VRs M σ ds vs) (hu : DV.under.underAll n ds = true) : VRs M (σ.cut n) ds vs := by
  cases h with
  | nil => exact .nil
  | cons h h1 =>
    simp only [DV.under.underAll, Bool.and_eq_true] at hu
    exact .cons (VR.cut h hu.1) (VRs.cut h1 hu.2)
end

theorem Inj.cut_zero (σ : Inj) : σ.cut 0 = noInj := by funext b; simp [Inj.cut, noInj]

theorem VR.pure {M : Mem} {σ : Inj} {d : DV} {v : Value} (h : VR M σ d v) (hu : d.under 0 = true) (σ' : Inj) : VR M σ' d v :=
  (Inj.cut_zero σ ▸ h.cut hu).mono (Mem.le_refl M) (noInj_le σ')

theorem VRs.pure {M : Mem} {σ : Inj} {ds : List DV} {vs : List Value} (h : VRs M σ ds vs) (hu : DV.under.underAll 0 ds = true) (σ' : Inj) : VRs M σ' ds vs :=
  (Inj.cut_zero σ ▸ h.cut hu).mono (Mem.le_refl M) (noInj_le σ')

theorem underAll_iff {n : Nat} : ∀ {ds : List DV}, DV.under.underAll n ds = true ↔ ∀ d ∈ ds, d.under n = true
  | [] => by simp [DV.under.underAll]
  | d :: ds => by simp [DV.under.underAll, underAll_iff (ds := ds)]

mutual
theorem under_mono {n m : Nat} (h : n ≤ m) : ∀ {d : DV}, d.under n = true → d.under m = true
  | .undef, _ | .bool _, _ | .int _ _, _ | .str _, _ | .nilp, _ | .look _, _ | .nils, _ | .sl _ _, _ | .nilm, _ | .nilf, _ | .nili, _ => rfl
  | .agg cs, hu => by simp only [DV.under] at hu ⊢; exact underAll_mono h hu
  | .tup cs, hu => by simp only [DV.under] at hu ⊢; exact underAll_mono h hu
  | .ref b _, hu => by simp only [DV.under, decide_eq_true_eq] at hu ⊢; omega
  | .msl b _ _ _ _, hu => by simp only [DV.under, decide_eq_true_eq] at hu ⊢; omega
  | .mref b, hu => by simp only [DV.under, decide_eq_true_eq] at hu ⊢; omega
  | .iter b, hu => by simp only [DV.under, decide_eq_true_eq] at hu ⊢; omega
  | .fn _ a b, hu => by simp only [DV.under, Bool.and_eq_true] at hu ⊢; exact ⟨underAll_mono h hu.1, underAll_mono h hu.2⟩
  | .iface _ v, hu => by simp only [DV.under] at hu ⊢; exact under_mono h hu
theorem underAll_mono {n m : Nat} (h : n ≤ m) : ∀ {ds : List DV}, DV.under.underAll n ds = true → DV.under.underAll m ds = true
  | [], _ => rfl
  | d :: ds, hu => by simp only [DV.under.underAll, Bool.and_eq_true] at hu ⊢; exact ⟨under_mono h hu.1, underAll_mono h hu.2⟩
end

theorem zcell_vr {M : Mem} {σ : Inj} {v : Value} {d : DV} (h : zcell v = some d) : VR M σ d v := by
  unfold zcell at h
  split at h <;> simp only [Option.some.injEq, reduceCtorEq] at h <;> subst h
  · exact .bool _
  · exact .int _ _
  · exact .str _
  · exact .nilp
  · exact .nils
  · exact .nilm
  · exact .nilf
  · exact .nili

theorem zcells_vrs {M : Mem} {σ : Inj} : ∀ {vs : List Value} {ds : List DV}, zcells vs = some ds → VRs M σ ds vs
  | [], ds, h => by simp [zcells] at h; subst h; exact .nil
  | v :: vs, ds, h => by
    unfold zcells at h
    split at h
    · rename_i d ds' h1 h2
      injection h with h; subst h
      exact .cons (zcell_vr h1) (zcells_vrs h2)
    · cases h

theorem zdv_vr {M : Mem} {σ : Inj} {v : Value} {d : DV} (h : zdv v = some d) : VR M σ d v := by
  unfold zdv at h
  split at h
  · rename_i cs
    cases hz : zcells cs.toList with
    | none => simp [hz] at h
    | some ds =>
      simp [hz] at h; subst h
      have := VR.agg (zcells_vrs (M := M) (σ := σ) hz)
      simpa using this
  · exact zcell_vr h

theorem zcell_under {v : Value} {d : DV} (h : zcell v = some d) : d.under 0 = true := by
  unfold zcell at h
  split at h <;> simp only [Option.some.injEq, reduceCtorEq] at h <;> subst h <;> simp [DV.under]

theorem zcells_under : ∀ {vs : List Value} {ds : List DV}, zcells vs = some ds → DV.under.underAll 0 ds = true
  | [], ds, h => by simp [zcells] at h; subst h; rfl
  | v :: vs, ds, h => by
    unfold zcells at h
    split at h
    · rename_i d ds' h1 h2
      injection h with h; subst h
      simp [DV.under.underAll, zcell_under h1, zcells_under h2]
    · cases h

theorem VR.cells {M : Mem} {σ : Inj} {d : DV} {v : Value} {cs : List DV} (h : VR M σ d v) (hc : d.cells = some cs) : VRs M σ cs v.cells.toList := by
  cases h with
  | agg h => simp [DV.cells] at hc; subst hc; simpa [Value.cells] using h
  | undef v => simp [DV.cells] at hc
  | tup h => simp [DV.cells] at hc
  | look h => simp [DV.cells] at hc; subst hc; exact .cons (.look h) .nil
  | ref h => simp [DV.cells] at hc; subst hc; exact .cons (.ref h) .nil
  | sl h h1 h2 => simp [DV.cells] at hc; subst hc; exact .cons (.sl h h1 h2) .nil
  | msl h h1 h2 h3 => simp [DV.cells] at hc; subst hc; exact .cons (.msl h h1 h2 h3) .nil
  | mref h => simp [DV.cells] at hc; subst hc; exact .cons (.mref h) .nil
  | fn h h1 => simp [DV.cells] at hc; subst hc; exact .cons (.fn h h1) .nil
  | iface h => simp [DV.cells] at hc; subst hc; exact .cons (.iface h) .nil
  | iter h => simp [DV.cells] at hc; subst hc; exact .cons (.iter h) .nil
  | bool b => simp [DV.cells] at hc; subst hc; exact .cons (.bool _) .nil
  | int k n => simp [DV.cells] at hc; subst hc; exact .cons (.int _ _) .nil
  | str s => simp [DV.cells] at hc; subst hc; exact .cons (.str _) .nil
  | nilp => simp [DV.cells] at hc; subst hc; exact .cons .nilp .nil
  | nils => simp [DV.cells] at hc; subst hc; exact .cons .nils .nil
  | nilm => simp [DV.cells] at hc; subst hc; exact .cons .nilm .nil
  | nilf => simp [DV.cells] at hc; subst hc; exact .cons .nilf .nil
  | nili => simp [DV.cells] at hc; subst hc; exact .cons .nili .nil

/-- A value of one cell. -/
def oneCell : Value → Bool
  | .agg _ | .tuple _ => false
  | _ => true

theorem VR.atom {M : Mem} {σ : Inj} {d : DV} {v : Value} (h : VR M σ d v) (ha : d.atom = true) : oneCell v = true := by
  cases h <;> simp_all [DV.atom, oneCell]

theorem VCells.get {M : Mem} {β : Nat} : ∀ {o : Nat} {ds : List DV}, VCells M β o ds → ∀ {i : Nat} {d : DV}, ds[i]? = some d → ∃ v, M β (o + i) = some v ∧ VR M noInj d v
  | _, _, .nil, i, d, h => by simp at h
  | _, _, .cons h1 h2 h3, 0, d, h => by simp at h; subst h; exact ⟨_, h1, h2⟩
  | o, _, .cons h1 h2 h3, i + 1, d, h => by
    simp at h
    obtain ⟨v, hv, hr⟩ := VCells.get h3 h
    exact ⟨v, by rw [← hv]; congr 1; omega, hr⟩

theorem VCells.of_get {M : Mem} {β : Nat} : ∀ {o : Nat} {ds : List DV}, (∀ i d, ds[i]? = some d → ∃ v, M β (o + i) = some v ∧ VR M noInj d v) → VCells M β o ds
  | o, [], _ => .nil
  | o, d :: ds, h => by
    obtain ⟨v, hv, hr⟩ := h 0 d rfl
    exact .cons hv hr (VCells.of_get fun i e he => by
      obtain ⟨u, hu, hr⟩ := h (i + 1) e (by simpa using he)
      exact ⟨u, by rw [← hu]; congr 1; omega, hr⟩)

theorem VCells.drop {M : Mem} {β o : Nat} {ds : List DV} (h : VCells M β o ds) (n : Nat) : VCells M β (o + n) (ds.drop n) :=
  VCells.of_get fun i d hd => by
    rw [List.getElem?_drop] at hd
    obtain ⟨v, hv, hr⟩ := h.get hd
    exact ⟨v, by rw [← hv]; congr 1; omega, hr⟩

theorem VCells.take {M : Mem} {β o : Nat} {ds : List DV} (h : VCells M β o ds) (n : Nat) : VCells M β o (ds.take n) :=
  VCells.of_get fun i d hd => by
    rw [List.getElem?_take] at hd
    split at hd
    · exact h.get hd
    · cases hd

theorem VRows.get {M : Mem} {β sz : Nat} : ∀ {o : Nat} {rs : List (List DV)}, VRows M β o sz rs → ∀ {i : Nat} {r : List DV}, rs[i]? = some r → r.length = sz ∧ VCells M β (o + i * sz) r
  | _, _, .nil, i, d, h => by simp at h
  | _, _, .cons h1 h2 h3, 0, d, h => by simp at h; subst h; exact ⟨h1, by simpa using h2⟩
  | o, _, .cons h1 h2 h3, i + 1, d, h => by
    simp at h
    obtain ⟨hl, hc⟩ := VRows.get h3 h
    exact ⟨hl, by rw [show o + (i + 1) * sz = o + sz + i * sz by rw [Nat.add_mul]; omega]; exact hc⟩

theorem VRows.of_get {M : Mem} {β sz : Nat} : ∀ {o : Nat} {rs : List (List DV)}, (∀ i r, rs[i]? = some r → r.length = sz ∧ VCells M β (o + i * sz) r) → VRows M β o sz rs
  | o, [], _ => .nil
  | o, r :: rs, h => .cons (h 0 r rfl).1 (by simpa using (h 0 r rfl).2) (VRows.of_get fun i e he => by
      have := h (i + 1) e (by simpa using he)
      exact ⟨this.1, by rw [show o + sz + i * sz = o + (i + 1) * sz by rw [Nat.add_mul]; omega]; exact this.2⟩)

theorem VRows.drop {M : Mem} {β o sz : Nat} {rs : List (List DV)} (h : VRows M β o sz rs) (n : Nat) : VRows M β (o + n * sz) sz (rs.drop n) :=
  VRows.of_get fun i r hr => by
    rw [List.getElem?_drop] at hr
    have := h.get hr
    exact ⟨this.1, by rw [show o + n * sz + i * sz = o + (n + i) * sz by rw [Nat.add_mul]; omega]; exact this.2⟩

theorem VRows.take {M : Mem} {β o sz : Nat} {rs : List (List DV)} (h : VRows M β o sz rs) (n : Nat) : VRows M β o sz (rs.take n) :=
  VRows.of_get fun i r hr => by
    rw [List.getElem?_take] at hr
    split at hr
    · exact h.get hr
    · cases hr

theorem VRows.flatten {M : Mem} {β sz : Nat} : ∀ {o : Nat} {rs : List (List DV)}, VRows M β o sz rs → VCells M β o rs.flatten
  | _, _, .nil => by simp; exact .nil
  | o, _, .cons (r := r) (rs := rs) h1 h2 h3 => by
    have h4 := VRows.flatten h3
    refine VCells.of_get fun i d hd => ?_
    simp only [List.flatten_cons] at hd
    by_cases hi : i < r.length
    · rw [List.getElem?_append_left hi] at hd
      exact h2.get hd
    · rw [List.getElem?_append_right (by omega)] at hd
      obtain ⟨v, hv, hr⟩ := h4.get hd
      exact ⟨v, by rw [← hv]; congr 1; omega, hr⟩
end Go.Dv
