/- A store and a world: 'Rel'; what a step leaves alone: 'Keeps'; new blocks, stores. -/
import Derived.Test.YtjojemebfojpnaaGreatDoorBhRel
set_option linter.unusedVariables false
namespace Go.Dv
open Go

/-- A box that may be written. -/
def Owns (S : Store) (b : Nat) : Prop :=
  (∃ cs k, S[b]? = some (.cells cs k) ∧ k ≠ .fixed) ∨ (∃ es c, S[b]? = some (.map es c)) ∨ (∃ s p, S[b]? = some (.siter s p))

def Live (S : Store) (b : Nat) : Prop := ∃ x, S[b]? = some x ∧ x ≠ .dead

theorem Owns.live {S : Store} {b : Nat} (h : Owns S b) : Live S b := by
  rcases h with ⟨cs, k, h, _⟩ | ⟨es, c, h⟩ | ⟨s, p, h⟩ <;> exact ⟨_, h, by simp⟩

/-- The entries of a map. -/
inductive Entries (M : Mem) (σ : Inj) : List (DV × DV × Nat) → List MapEntry → Prop
  | nil : Entries M σ [] []
  | cons {k v : DV} {born : Nat} {e : MapEntry} {es es'} : k.under 0 = true → VR M σ k e.key → VR M σ v e.val → e.born = born → Entries M σ es es' → Entries M σ ((k, v, born) :: es) (e :: es')

theorem Entries.mono {M M' : Mem} {σ σ' : Inj} (hM : M.le M') (hσ : σ.le σ') : ∀ {es es'}, Entries M σ es es' → Entries M' σ' es es'
  | _, _, .nil => .nil
  | _, _, .cons h0 h1 h2 h3 h4 => .cons h0 (h1.mono hM hσ) (h2.mono hM hσ) h3 (Entries.mono hM hσ h4)

/-- A box and its block. -/
def BoxAt (M : Mem) (σ : Inj) (w : World) (b : Nat) : Box → Prop
  | .dead => True
  | .cells cs k => ∃ β c el fz, σ b = some (β, c.size) ∧ w.heap[β]? = some (.cells c el fz) ∧ cs.length ≤ c.size ∧ (∀ t, k = .exact t → c.size = cs.length) ∧
      (∀ (j : Nat) (d : DV), cs[j]? = some d → ∃ v, c[j]? = some v ∧ VR M σ d v) ∧
      (k ≠ .fixed → (∀ o, M β o = none) ∧ ∀ o, o < c.size → (k.open = false → cs.length ≤ o) → ¬ ((k.open = true → fz.1 ≤ o) ∧ o < fz.2)) ∧
      (k = .fixed → ∀ (j : Nat) (v : Value), j < cs.length → c[j]? = some v → M β j = some v) ∧ (∀ t, k = .exact t ∨ k = .grown t ∨ k = .text t → el = t)
  | .map es clock => ∃ β n es', σ b = some (β, n) ∧ w.heap[β]? = some (.map es' clock) ∧ Entries M σ es es'.toList ∧ (∀ o, M β o = none)
  | .siter s p => ∃ β n, σ b = some (β, n) ∧ w.heap[β]? = some (.stringIter ⟨s.toArray⟩ p) ∧ (∀ o, M β o = none)

structure Rel (M : Mem) (σ : Inj) (S : Store) (w : World) : Prop where
  mem : ∀ β o v, M β o = some v → w.cell? ⟨β, o, none⟩ = some v
  dom : ∀ b β n, σ b = some (β, n) → b < S.length ∧ β < w.heap.size
  box : ∀ b x, S[b]? = some x → BoxAt M σ w b x
  sep : ∀ b b' β n n', Owns S b → Live S b' → σ b = some (β, n) → σ b' = some (β, n') → b = b'

/-- What a step leaves alone: all but the blocks of boxes that may be written. -/
structure Keeps (σ : Inj) (S : Store) (w w' : World) : Prop where
  os : w'.os = w.os
  tape : w'.tape = w.tape
  output : w'.output = w.output
  size : w.heap.size ≤ w'.heap.size
  block : ∀ β, β < w.heap.size → (∀ b n, Owns S b → σ b ≠ some (β, n)) → w'.heap[β]? = w.heap[β]?

theorem Keeps.refl (σ : Inj) (S : Store) (w : World) : Keeps σ S w w := ⟨rfl, rfl, rfl, Nat.le_refl _, fun _ _ _ => rfl⟩

theorem cell?_of {w : World} {β o : Nat} {v : Value} (h : w.cell? ⟨β, o, none⟩ = some v) : ∃ c el fz, w.heap[β]? = some (.cells c el fz) ∧ c[o]? = some v := by
  unfold World.cell? at h
  split at h
  · rename_i c el fz hc
    simp only [Option.isSome_none, Bool.false_eq_true, if_false] at h
    exact ⟨c, el, fz, hc, h⟩
  · cases h

theorem cell?_at {w : World} {β o : Nat} {c : Array Value} {el fz} (h : w.heap[β]? = some (.cells c el fz)) : w.cell? ⟨β, o, none⟩ = c[o]? := by
  unfold World.cell?; simp only [h]; simp

theorem cell?_congr {w w' : World} {β o : Nat} (h : w'.heap[β]? = w.heap[β]?) : w'.cell? ⟨β, o, none⟩ = w.cell? ⟨β, o, none⟩ := by
  unfold World.cell?; simp only [h]

theorem lt_of_get {α : Type} {a : Array α} {i : Nat} {x : α} (h : a[i]? = some x) : i < a.size := (Array.getElem?_eq_some_iff.1 h).1
theorem lt_of_lget {α : Type} {a : List α} {i : Nat} {x : α} (h : a[i]? = some x) : i < a.length := (List.getElem?_eq_some_iff.1 h).1

/-- Old memory that is data lies in no block that may be written. -/
theorem Rel.mem_free {M : Mem} {σ : Inj} {S : Store} {w : World} (h : Rel M σ S w) {b β n o : Nat} {v : Value} (ho : Owns S b) (hb : σ b = some (β, n)) : M β o ≠ some v := by
  intro hm
  rcases ho with ⟨cs, k, hs, hk⟩ | ⟨es, c, hs⟩ | ⟨s, p, hs⟩
  · obtain ⟨β', c, el, fz, h1, _, _, _, _, h6, _⟩ := h.box b _ hs
    rw [hb] at h1; injection h1 with h1; injection h1 with h1 h2; subst h1
    rw [(h6 hk).1 o] at hm; cases hm
  · obtain ⟨β', n', es', h1, _, _, h4⟩ := h.box b _ hs
    rw [hb] at h1; injection h1 with h1; injection h1 with h1 h2; subst h1
    rw [h4 o] at hm; cases hm
  · obtain ⟨β', n', h1, _, h4⟩ := h.box b _ hs
    rw [hb] at h1; injection h1 with h1; injection h1 with h1 h2; subst h1
    rw [h4 o] at hm; cases hm

theorem BoxAt.mono {M M' : Mem} {σ σ' : Inj} {w w' : World} {b : Nat} {x : Box} (h : BoxAt M σ w b x) (hM : M.le M') (hσ : σ.le σ')
    (hw : ∀ β n, σ b = some (β, n) → x ≠ .dead → w'.heap[β]? = w.heap[β]?) (hN : ∀ β n, σ b = some (β, n) → (∀ o, M β o = none) → ∀ o, M' β o = none) : BoxAt M' σ' w' b x := by
  cases x with
  | dead => trivial
  | cells cs k =>
    obtain ⟨β, c, el, fz, h1, h2, h3, h4, h5, h6, h7, h8⟩ := h
    refine ⟨β, c, el, fz, hσ _ _ h1, by rw [hw _ _ h1 (by simp)]; exact h2, h3, h4, fun j d hj => ?_, fun hk => ⟨hN _ _ h1 (h6 hk).1, (h6 hk).2⟩, fun hk j v hj hv => hM _ _ _ (h7 hk j v hj hv), h8⟩
    obtain ⟨v, hv, hr⟩ := h5 j d hj
    exact ⟨v, hv, hr.mono hM hσ⟩
  | map es clock =>
    obtain ⟨β, n, es', h1, h2, h3, h4⟩ := h
    exact ⟨β, n, es', hσ _ _ h1, by rw [hw _ _ h1 (by simp)]; exact h2, h3.mono hM hσ, hN _ _ h1 h4⟩
  | siter s p =>
    obtain ⟨β, n, h1, h2, h4⟩ := h
    exact ⟨β, n, hσ _ _ h1, by rw [hw _ _ h1 (by simp)]; exact h2, hN _ _ h1 h4⟩

def Inj.add (σ : Inj) (b : Nat) (p : Nat × Nat) : Inj := fun x => if x = b then some p else σ x

theorem Inj.le_add {σ : Inj} {b : Nat} {p : Nat × Nat} (h : σ b = none) : σ.le (σ.add b p) := fun x q hx => by
  unfold Inj.add; split
  · rename_i e; subst e; rw [h] at hx; cases hx
  · exact hx

theorem Inj.add_same (σ : Inj) (b : Nat) (p : Nat × Nat) : σ.add b p b = some p := by simp [Inj.add]

def pushW (w : World) (o : Obj) : World := { w with heap := w.heap.push o }

theorem pushW_old {w : World} {o : Obj} {k : Nat} (h : k < w.heap.size) : (pushW w o).heap[k]? = w.heap[k]? := by
  show (w.heap.push o)[k]? = _
  rw [Array.getElem?_push, if_neg (by omega)]
theorem pushW_new (w : World) (o : Obj) : (pushW w o).heap[w.heap.size]? = some o := by
  show (w.heap.push o)[w.heap.size]? = _
  simp

theorem pushW_keeps (σ : Inj) (S : Store) (w : World) (o : Obj) : Keeps σ S w (pushW w o) :=
  ⟨rfl, rfl, rfl, by simp [pushW], fun β hβ _ => pushW_old hβ⟩

theorem Rel.fresh {M : Mem} {σ : Inj} {S : Store} {w : World} (h : Rel M σ S w) : σ S.length = none := by
  cases hs : σ S.length with
  | none => rfl
  | some p => have := (h.dom _ p.1 p.2 hs).1; omega

theorem get_append_one {α : Type} {l : List α} {x y : α} {b : Nat} (h : (l ++ [x])[b]? = some y) : l[b]? = some y ∨ (b = l.length ∧ y = x) := by
  rw [List.getElem?_append] at h
  split at h
  · exact .inl h
  · rename_i hb
    have : b - l.length = 0 := by
      rcases Nat.eq_zero_or_pos (b - l.length) with e | e
      · exact e
      · rw [List.getElem?_eq_none (by simp; omega)] at h; cases h
    rw [this] at h; simp at h
    exact .inr ⟨by omega, h.symm⟩

/-- What laying one more block and box comes to, the new box being what it should. -/
theorem Rel.push {M : Mem} {σ : Inj} {S : Store} {w : World} (h : Rel M σ S w) (o : Obj) (x : Box) (n : Nat)
    (hx : BoxAt M (σ.add S.length (w.heap.size, n)) (pushW w o) S.length x) : Rel M (σ.add S.length (w.heap.size, n)) (S ++ [x]) (pushW w o) := by
  have hle := Inj.le_add (σ := σ) (p := (w.heap.size, n)) h.fresh
  have hold : ∀ b β k, σ b = some (β, k) → (pushW w o).heap[β]? = w.heap[β]? := fun b β k hb => pushW_old (h.dom _ _ _ hb).2
  refine ⟨fun β o' v hm => ?_, fun b β k hb => ?_, fun b y hy => ?_, fun b b' β k k' ho hl hb hb' => ?_⟩
  · have hc := h.mem β o' v hm
    obtain ⟨c, el, fz, hc1, _⟩ := cell?_of hc
    rw [cell?_congr (pushW_old (lt_of_get hc1))]; exact hc
  · unfold Inj.add at hb
    split at hb
    · rename_i e; subst e; injection hb with hb; injection hb with hb1 hb2; subst hb1
      exact ⟨by simp, by simp [pushW]⟩
    · have := h.dom _ _ _ hb
      exact ⟨by simp; omega, by simp [pushW]; omega⟩
  · rcases get_append_one hy with hy | ⟨rfl, rfl⟩
    · exact (h.box b y hy).mono (Mem.le_refl M) hle (fun β k hb _ => hold _ _ _ hb) (fun _ _ _ hn => hn)
    · exact hx
  · have low : ∀ {c : Nat}, Live (S ++ [x]) c → c ≠ S.length → Live S c := fun {c} hc hne => by
      obtain ⟨y, hy, hd⟩ := hc
      rcases get_append_one hy with hy | ⟨e, _⟩
      · exact ⟨y, hy, hd⟩
      · exact absurd e hne
    have lowO : ∀ {c : Nat}, Owns (S ++ [x]) c → c ≠ S.length → Owns S c := fun {c} hc hne => by
      rcases hc with ⟨cs, k, hy, hk⟩ | ⟨es, k, hy⟩ | ⟨s, p, hy⟩ <;> rcases get_append_one hy with hy | ⟨e, _⟩
      · exact .inl ⟨_, _, hy, hk⟩
      · exact absurd e hne
      · exact .inr (.inl ⟨_, _, hy⟩)
      · exact absurd e hne
      · exact .inr (.inr ⟨_, _, hy⟩)
      · exact absurd e hne
    unfold Inj.add at hb hb'
    split at hb
    · rename_i e
      split at hb'
      · rename_i e'; rw [e, e']
      · injection hb with hb; injection hb with hb1 hb2
        have := (h.dom _ _ _ hb').2
        omega
    · rename_i e
      split at hb'
      · injection hb' with hb'; injection hb' with hb1 hb2
        have := (h.dom _ _ _ hb).2
        omega
      · rename_i e'
        exact h.sep b b' β k k' (lowO ho e) (low hl e') hb hb'

/-- A new row of cells. -/
theorem Rel.newCells {M : Mem} {σ : Inj} {S : Store} {w : World} (h : Rel M σ S w) {cs : List DV} {c : Array Value} {k : Kind} (el : TypeId) (fz : Nat × Nat)
    (hl : cs.length ≤ c.size) (hk : ∀ t, k = .exact t → c.size = cs.length) (hkf : k ≠ .fixed) (hkt : ∀ t, k = .exact t ∨ k = .grown t ∨ k = .text t → el = t) (hv : ∀ (j : Nat) (d : DV), cs[j]? = some d → ∃ v, c[j]? = some v ∧ VR M σ d v)
    (hf : ∀ o, o < c.size → ¬ ((k.open = true → fz.1 ≤ o) ∧ o < fz.2)) :
    Rel M (σ.add S.length (w.heap.size, c.size)) (S ++ [.cells cs k]) (pushW w (.cells c el fz)) := by
  refine h.push _ _ _ ⟨w.heap.size, c, el, fz, Inj.add_same _ _ _, pushW_new _ _, hl, hk, fun j d hj => ?_, fun _ => ⟨fun o => ?_, fun o ho _ => hf o ho⟩, fun e => absurd e hkf, hkt⟩
  · obtain ⟨v, hv, hr⟩ := hv j d hj
    exact ⟨v, hv, hr.mono (Mem.le_refl M) (Inj.le_add h.fresh)⟩
  · cases hm : M w.heap.size o with
    | none => rfl
    | some v =>
      obtain ⟨c, el, fz, hc1, _⟩ := cell?_of (h.mem _ _ _ hm)
      have := lt_of_get hc1; omega

theorem Rel.newMap {M : Mem} {σ : Inj} {S : Store} {w : World} (h : Rel M σ S w) :
    Rel M (σ.add S.length (w.heap.size, 0)) (S ++ [.map [] 0]) (pushW w (.map #[] 0)) := by
  refine h.push _ _ _ ⟨w.heap.size, 0, #[], Inj.add_same _ _ _, pushW_new _ _, .nil, fun o => ?_⟩
  cases hm : M w.heap.size o with
  | none => rfl
  | some v =>
    obtain ⟨c, el, fz, hc1, _⟩ := cell?_of (h.mem _ _ _ hm)
    have := lt_of_get hc1; omega

def setW (w : World) (β : Nat) (o : Obj) : World := { w with heap := w.heap.setIfInBounds β o }

theorem setW_ne {w : World} {β γ : Nat} {o : Obj} (h : β ≠ γ) : (setW w β o).heap[γ]? = w.heap[γ]? := by
  show (w.heap.setIfInBounds β o)[γ]? = _
  rw [Array.getElem?_setIfInBounds_ne h]
theorem setW_same {w : World} {β : Nat} {o : Obj} (h : β < w.heap.size) : (setW w β o).heap[β]? = some o := by
  show (w.heap.setIfInBounds β o)[β]? = _
  simp [h]

/-- What turning a box that may be written, and its block, comes to. -/
theorem Rel.turn {M : Mem} {σ : Inj} {S : Store} {w : World} (h : Rel M σ S w) {b β n : Nat} (ho : Owns S b) (hb : σ b = some (β, n)) (o : Obj) (x : Box)
    (hx : BoxAt M σ (setW w β o) b x) : Rel M σ (S.set b x) (setW w β o) ∧ Keeps σ S w (setW w β o) := by
  have hβ := (h.dom _ _ _ hb).2
  have hbl := (h.dom _ _ _ hb).1
  have liveSet : ∀ {c : Nat}, Live (S.set b x) c → c ≠ b → Live S c := fun {c} hc hne => by
    obtain ⟨y, hy, hd⟩ := hc
    rw [List.getElem?_set_ne (Ne.symm hne)] at hy
    exact ⟨y, hy, hd⟩
  refine ⟨⟨fun γ o' v hm => ?_, fun c γ k hc => ?_, fun c y hy => ?_, fun c c' γ k k' hoc hlc hc hc' => ?_⟩, ⟨rfl, rfl, rfl, by simp [setW], fun γ hγ hno => ?_⟩⟩
  · have hne : β ≠ γ := fun e => by subst e; exact h.mem_free ho hb hm
    rw [cell?_congr (setW_ne hne)]; exact h.mem γ o' v hm
  · have := h.dom _ _ _ hc; exact ⟨by simpa using this.1, by simpa [setW] using this.2⟩
  · by_cases e : c = b
    · subst e
      rw [List.getElem?_set_self hbl] at hy; injection hy with hy; subst hy
      exact hx
    · rw [List.getElem?_set_ne (Ne.symm e)] at hy
      refine (h.box c y hy).mono (Mem.le_refl M) (Inj.le_refl σ) (fun γ k hc hd => setW_ne fun e' => ?_) (fun _ _ _ hn => hn)
      subst e'
      exact e (h.sep b c _ _ _ ho ⟨y, hy, hd⟩ hb hc).symm
  · by_cases e : c = b
    · by_cases e' : c' = b
      · rw [e, e']
      · subst e
        exact h.sep _ _ _ _ _ ho (liveSet hlc e') hc hc'
    · have hoc' : Owns S c := by
        rcases hoc with ⟨cs, k, hy, hk⟩ | ⟨es, k, hy⟩ | ⟨s, p, hy⟩ <;> rw [List.getElem?_set_ne (Ne.symm e)] at hy
        · exact .inl ⟨_, _, hy, hk⟩
        · exact .inr (.inl ⟨_, _, hy⟩)
        · exact .inr (.inr ⟨_, _, hy⟩)
      by_cases e' : c' = b
      · subst e'
        exact h.sep _ _ _ _ _ hoc' ho.live hc hc'
      · exact h.sep _ _ _ _ _ hoc' (liveSet hlc e') hc hc'
  · exact setW_ne fun e => by subst e; exact hno b n ho hb

/-- A store less one box. -/
theorem Rel.kill {M : Mem} {σ : Inj} {S : Store} {w : World} (h : Rel M σ S w) (b : Nat) : Rel M σ (S.set b .dead) w := by
  have old : ∀ {c : Nat} {y : Box}, (S.set b .dead)[c]? = some y → y ≠ .dead → S[c]? = some y := fun {c y} hy hd => by
    rw [List.getElem?_set] at hy
    split at hy
    · split at hy
      · injection hy with hy; exact absurd hy.symm hd
      · cases hy
    · exact hy
  refine ⟨h.mem, fun c γ k hc => by have := h.dom _ _ _ hc; exact ⟨by simpa using this.1, this.2⟩, fun c y hy => ?_, fun c c' γ k k' hoc hlc hc hc' => ?_⟩
  · cases y with
    | dead => trivial
    | _ => exact h.box c _ (old hy (by simp))
  · obtain ⟨y, hy, hd⟩ := hlc
    refine h.sep c c' γ k k' ?_ ⟨y, old hy hd, hd⟩ hc hc'
    rcases hoc with ⟨cs, k, hy, hk⟩ | ⟨es, k, hy⟩ | ⟨s, p, hy⟩
    · exact .inl ⟨_, _, old hy (by simp), hk⟩
    · exact .inr (.inl ⟨_, _, old hy (by simp)⟩)
    · exact .inr (.inr ⟨_, _, old hy (by simp)⟩)

/-- What a later step may write. -/
theorem Keeps.trans {M' : Mem} {σ σ' : Inj} {S S' : Store} {w w' w'' : World} (h : Keeps σ S w w') (g : Keeps σ' S' w' w'')
    (hf : ∀ b β n, Owns S' b → σ' b = some (β, n) → β < w.heap.size → ∃ b' n', Owns S b' ∧ σ b' = some (β, n')) : Keeps σ S w w'' :=
  ⟨g.os.trans h.os, g.tape.trans h.tape, g.output.trans h.output, Nat.le_trans h.size g.size, fun β hβ hno =>
    (g.block β (Nat.lt_of_lt_of_le hβ h.size) fun b n ho hb => by
      obtain ⟨b', n', ho', hb'⟩ := hf b β n ho hb hβ
      exact hno b' n' ho' hb').trans (h.block β hβ hno)⟩
end Go.Dv
