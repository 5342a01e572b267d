/- Sealing: what a call has laid becomes data. -/
import Derived.Test.YtjojemebfojpnaaGreatDoorBhPres
set_option linter.unusedVariables false
set_option linter.unusedSimpArgs false
namespace Go.Dv
open Go

theorem VR.inj_le {M : Mem} {σ : Inj} {n : Nat} (hσ : ∀ b p, σ b = some p → b < n) : σ.le (σ.cut n) := fun b p h => by unfold Inj.cut; rw [if_pos (hσ b p h)]; exact h

mutual
theorem VR.cutUnder {M : Mem} {σ : Inj} {n : Nat} {d : DV} {v : Value} (h : VR M (σ.cut n) d v) : d.under n = true := by
  generalize hτ : σ.cut n = τ at h
  have hb : ∀ {b : Nat} {p : Nat × Nat}, τ b = some p → b < n := fun {b p} h => by
    rw [← hτ] at h; unfold Inj.cut at h; split at h
    · assumption
    · cases h
  cases h with
  | undef v => rfl
  | bool b => rfl
  | int k n => rfl
  | str s => rfl
  | agg h => simp only [DV.under]; subst hτ; exact VRs.cutUnder h
  | tup h => simp only [DV.under]; subst hτ; exact VRs.cutUnder h
  | nilp => rfl
  | look h => rfl
  | ref h => simpa [DV.under] using hb h
  | nils => rfl
  | sl h h1 h2 => rfl
  | msl h h1 h2 h3 => simpa [DV.under] using hb h
  | nilm => rfl
  | mref h => simpa [DV.under] using hb h
  | nilf => rfl
  | fn h h1 => simp only [DV.under, Bool.and_eq_true]; subst hτ; exact ⟨VRs.cutUnder h, VRs.cutUnder h1⟩
  | nili => rfl
  | iface h => simp only [DV.under]; subst hτ; exact VR.cutUnder h
  | iter h => simpa [DV.under] using hb h
theorem VRs.cutUnder {M : Mem} {σ : Inj} {n : Nat} {ds : List DV} {vs : List Value} (h : VRs M (σ.cut n) ds vs) : DV.under.underAll n ds = true := by
  generalize hτ : σ.cut n = τ at h
  cases h with
  | nil => rfl
  | cons h h1 => simp only [DV.under.underAll, Bool.and_eq_true]; subst hτ; exact ⟨VR.cutUnder h, VRs.cutUnder h1⟩
end

theorem VR.under {M : Mem} {n : Nat} {σ : Inj} {d : DV} {v : Value} (h : VR M σ d v) (hσ : ∀ b p, σ b = some p → b < n) : d.under n = true :=
  (h.mono (Mem.le_refl M) (VR.inj_le (M := M) hσ)).cutUnder

theorem Entries.mem {M : Mem} {σ : Inj} : ∀ {es es'}, Entries M σ es es' → ∀ {k v : DV} {bo : Nat}, (k, v, bo) ∈ es → ∃ e, k.under 0 = true ∧ VR M σ v (MapEntry.val e)
  | _, _, .nil, k, v, bo, h => by cases h
  | _, _, .cons (e := e) h0 h1 h2 h3 h4, k, v, bo, h => by
    rcases List.mem_cons.1 h with h | h
    · simp only [Prod.mk.injEq] at h; obtain ⟨rfl, rfl, rfl⟩ := h; exact ⟨e, h0, h2⟩
    · exact Entries.mem h4 h

theorem Rel.closed {M : Mem} {σ : Inj} {S : Store} {w : World} (h : Rel M σ S w) : Closed S.length S := by
  have hσ : ∀ b p, σ b = some p → b < S.length := fun b p hb => (h.dom b p.1 p.2 hb).1
  intro b x hb hx
  have hbx := h.box b x hx
  cases x with
  | dead => trivial
  | siter s p => trivial
  | cells cs k =>
    obtain ⟨β, c, el, fz, h1, h2, h3, h4, h5, _⟩ := hbx
    show DV.under.underAll _ cs = true
    rw [underAll_iff]
    intro d hd
    obtain ⟨j, hj⟩ := List.getElem?_of_mem hd
    obtain ⟨v, _, hv⟩ := h5 j d hj
    exact hv.under hσ
  | map es clock =>
    obtain ⟨β, n, es', h1, h2, h3, h4⟩ := hbx
    intro k v bo hm
    obtain ⟨e, hk, hv⟩ := h3.mem hm
    exact ⟨under_mono (Nat.zero_le _) hk, hv.under hσ⟩

/-- A block of cells that a call has laid. -/
def Laid (n : Nat) (σ : Inj) (S : Store) (β : Nat) : Prop := ∃ b m cs k, n ≤ b ∧ σ b = some (β, m) ∧ S[b]? = some (.cells cs k) ∧ k ≠ .fixed

open Classical in
noncomputable def Mem.lay (M : Mem) (n : Nat) (σ : Inj) (S : Store) (w : World) : Mem := fun β o =>
  match M β o with
  | some v => some v
  | none => if Laid n σ S β then w.cell? ⟨β, o, none⟩ else none

section
variable {M : Mem} {σ : Inj} {S : Store} {w : World} {n : Nat}

theorem lay_le : M.le (M.lay n σ S w) := fun β o v h => by simp [Mem.lay, h]

theorem lay_some (h : Rel M σ S w) {β o : Nat} {v : Value} (hm : M.lay n σ S w β o = some v) : w.cell? ⟨β, o, none⟩ = some v := by
  unfold Mem.lay at hm
  split at hm
  · rename_i v' hv; injection hm with hm; subst hm; exact h.mem _ _ _ hv
  · split at hm
    · exact hm
    · cases hm

theorem lay_news (h : Rel M σ S w) {β o : Nat} {v : Value} (hm : M.lay n σ S w β o = some v) : M β o = some v ∨ Laid n σ S β := by
  unfold Mem.lay at hm
  split at hm
  · rename_i v' hv; injection hm with hm; subst hm; exact .inl hv
  · split at hm
    · rename_i hl; exact .inr hl
    · cases hm

theorem lay_cell (h : Rel M σ S w) {b β m : Nat} {cs : List DV} {k : Kind} (hn : n ≤ b) (hb : σ b = some (β, m)) (hs : S[b]? = some (.cells cs k)) {j : Nat} {v : Value} (hj : j < cs.length)
    (hv : w.cell? ⟨β, j, none⟩ = some v) : M.lay n σ S w β j = some v := by
  unfold Mem.lay
  split
  · rename_i v' hv'
    have := h.mem _ _ _ hv'
    rw [hv] at this; exact this.symm
  · rename_i hnone
    by_cases hk : k = .fixed
    · obtain ⟨β', c, el, fz, h1, h2, h3, h4, h5, h6, h7, h8⟩ := h.box b _ hs
      rw [hb] at h1; injection h1 with h1; injection h1 with h1 h1'; subst h1
      rw [cell?_at h2] at hv
      rw [h7 hk j v hj hv] at hnone; cases hnone
    · rw [if_pos ⟨b, m, cs, k, hn, hb, hs, hk⟩]; exact hv

theorem mapO_sound {M' : Mem} {σ' : Inj} {f : DV → Option DV} : ∀ {ds ds' : List DV} {vs : List Value}, (∀ d v d', VR M σ d v → f d = some d' → VR M' σ' d' v) → VRs M σ ds vs → mapO f ds = some ds' → VRs M' σ' ds' vs
  | _, ds', _, hf, .nil, h => by simp [mapO] at h; subst h; exact .nil
  | _, ds', _, hf, .cons h1 h2, h => by
    unfold mapO at h
    split at h
    · rename_i d' e' hd he
      injection h with h; subst h
      exact .cons (hf _ _ _ h1 hd) (mapO_sound hf h2 he)
    · cases h

theorem mapO_length {f : DV → Option DV} : ∀ {ds ds' : List DV}, mapO f ds = some ds' → ds'.length = ds.length
  | [], ds', h => by simp [mapO] at h; subst h; rfl
  | d :: ds, ds', h => by
    unfold mapO at h
    split at h
    · rename_i d' e' hd he
      injection h with h; subst h
      simp [mapO_length he]
    · cases h

theorem sealD_sound (h : Rel M σ S w) : ∀ (k : Nat) {d d' : DV} {v : Value}, VR M σ d v → sealD n S k d = some d' → VR (M.lay n σ S w) (σ.cut n) d' v
  | 0, d, d', v, hv, hs => by simp [sealD] at hs
  | k + 1, d, d', v, hv, hs => by
    have hcut : ∀ {b : Nat} {p : Nat × Nat}, σ b = some p → b < n → σ.cut n b = some p := fun {b p} hb hn => by unfold Inj.cut; rw [if_pos hn]; exact hb
    cases hv with
    | undef v => simp only [sealD, Option.some.injEq] at hs; subst hs; exact .undef _
    | bool b => simp only [sealD, Option.some.injEq] at hs; subst hs; exact .bool _
    | int k n => simp only [sealD, Option.some.injEq] at hs; subst hs; exact .int _ _
    | str s => simp only [sealD, Option.some.injEq] at hs; subst hs; exact .str _
    | agg hv =>
      simp only [sealD, Option.map_eq_some_iff] at hs
      obtain ⟨ds, hds, rfl⟩ := hs
      exact .agg (mapO_sound (fun d v d' => sealD_sound h k) hv hds)
    | tup hv =>
      simp only [sealD, Option.map_eq_some_iff] at hs
      obtain ⟨ds, hds, rfl⟩ := hs
      exact .tup (mapO_sound (fun d v d' => sealD_sound h k) hv hds)
    | nilp => simp only [sealD, Option.some.injEq] at hs; subst hs; exact .nilp
    | look hc => simp only [sealD, Option.some.injEq] at hs; subst hs; exact .look (hc.mono lay_le)
    | ref hb =>
      simp only [sealD] at hs
      split at hs
      · rename_i hn; injection hs with hs; subst hs; exact .ref (hcut hb hn)
      · cases hs
    | nils => simp only [sealD, Option.some.injEq] at hs; subst hs; exact .nils
    | sl h1 h2 h3 => simp only [sealD, Option.some.injEq] at hs; subst hs; exact .sl (h1.mono lay_le) h2 h3
    | @msl _ b β m off sz len c cap hb h1 h2 h3 =>
      simp only [sealD] at hs
      split at hs
      · rename_i hn; injection hs with hs; subst hs; exact .msl (hcut hb hn) h1 h2 h3
      · rename_i hn
        split at hs
        · rename_i cs kd hS
          split at hs
          · rename_i xs hp
            split at hs
            · rename_i ys hy
              split at hs
              · rename_i hu
                rw [Option.map_eq_some_iff] at hs
                obtain ⟨rows, hrows, rfl⟩ := hs
                obtain ⟨rfl, hxl, hle⟩ := piece_some hp
                have hcs := h.cellsAt hb hS
                have hxs : Cells M σ w β off ((cs.drop off).take (len * sz)) := by
                  have := (hcs.shift off).take (len * sz)
                  rwa [Nat.zero_add] at this
                obtain ⟨vs, hvs, hget⟩ := hxs.values
                have hys := mapO_sound (M' := M.lay n σ S w) (σ' := σ.cut n) (fun d v d' => sealD_sound h k) hvs hy
                have hys0 := hys.pure hu noInj
                have hyl := mapO_length hy
                have hcells : VCells (M.lay n σ S w) β off ys := VCells.of_get fun i d hd => by
                  obtain ⟨v, hv, hr⟩ := hys0.get hd
                  have hi : i < ys.length := lt_of_lget hd
                  refine ⟨v, lay_cell h (by omega) hb hS ?_ (hget i v hv), hr⟩
                  rw [hyl, hxl] at hi; omega
                have hrl := (chunk_some hrows).1
                have hlen : len = rows.length := hrl.symm
                rw [hlen]
                refine .sl (chunk_rows hcells hrows) (by omega) fun hex => ?_
                cases cap with
                | none => simp at hex
                | some k' =>
                  simp only [decide_eq_true_eq] at hex
                  rw [h2 k' rfl]; omega
              · cases hs
            · cases hs
          · cases hs
        · cases hs
    | nilm => simp only [sealD, Option.some.injEq] at hs; subst hs; exact .nilm
    | mref hb =>
      simp only [sealD] at hs
      split at hs
      · rename_i hn; injection hs with hs; subst hs; exact .mref (hcut hb hn)
      · cases hs
    | nilf => simp only [sealD, Option.some.injEq] at hs; subst hs; exact .nilf
    | fn h1 h2 =>
      simp only [sealD] at hs
      split at hs
      · rename_i a' b' ha hb
        injection hs with hs; subst hs
        exact .fn (mapO_sound (fun d v d' => sealD_sound h k) h1 ha) (mapO_sound (fun d v d' => sealD_sound h k) h2 hb)
      · cases hs
    | nili => simp only [sealD, Option.some.injEq] at hs; subst hs; exact .nili
    | iface hv =>
      simp only [sealD, Option.map_eq_some_iff] at hs
      obtain ⟨ds, hds, rfl⟩ := hs
      exact .iface (sealD_sound h k hv hds)
    | iter hb =>
      simp only [sealD] at hs
      split at hs
      · rename_i hn; injection hs with hs; subst hs; exact .iter (hcut hb hn)
      · cases hs

theorem Entries.cut {M' : Mem} (hM : M.le M') {n : Nat} : ∀ {es es'}, Entries M σ es es' → (∀ k v bo, (k, v, bo) ∈ es → k.under n = true ∧ v.under n = true) → Entries M' (σ.cut n) es es'
  | _, _, .nil, _ => .nil
  | _, _, .cons h0 h1 h2 h3 h4, hu => by
    have := hu _ _ _ (List.mem_cons_self ..)
    exact .cons h0 ((h1.cut this.1).mono hM (Inj.le_refl _)) ((h2.cut this.2).mono hM (Inj.le_refl _)) h3 (Entries.cut hM h4 fun k v bo hm => hu k v bo (List.mem_cons_of_mem _ hm))

theorem lay_none (h : Rel M σ S w) {b β m : Nat} (hbn : b < n) (hl : Live S b) (hb : σ b = some (β, m)) (hnone : ∀ o, M β o = none) (o : Nat) : M.lay n σ S w β o = none := by
  unfold Mem.lay
  rw [hnone o]
  simp only
  rw [if_neg]
  rintro ⟨b', m', cs, k, hn, hb', hs, hk⟩
  have := h.sep b' b β m' m (.inl ⟨cs, k, hs, hk⟩) hl hb' hb
  omega

/-- A store less what lies from n on. -/
theorem Rel.take (h : Rel M σ S w) (hc : Closed n S) (hn : n ≤ S.length) : Rel (M.lay n σ S w) (σ.cut n) (S.take n) w := by
  have hlt : ∀ {b : Nat} {p : Nat × Nat}, σ.cut n b = some p → b < n ∧ σ b = some p := fun {b p} hb => by
    unfold Inj.cut at hb; split at hb
    · rename_i hbn; exact ⟨hbn, hb⟩
    · cases hb
  have hcut : ∀ {b : Nat} {p : Nat × Nat}, σ b = some p → b < n → σ.cut n b = some p := fun {b p} hb hn => by unfold Inj.cut; rw [if_pos hn]; exact hb
  have htk : ∀ {b : Nat} {x : Box}, (S.take n)[b]? = some x → b < n ∧ S[b]? = some x := fun {b x} hb => by
    rw [List.getElem?_take] at hb; split at hb
    · rename_i hbn; exact ⟨hbn, hb⟩
    · cases hb
  refine ⟨fun β o v hm => lay_some h hm, fun b β m hb => ?_, fun b x hx => ?_, fun b b' β m m' ho hl hb hb' => ?_⟩
  · obtain ⟨h1, h2⟩ := hlt hb
    exact ⟨by rw [List.length_take]; omega, (h.dom _ _ _ h2).2⟩
  · obtain ⟨hbn, hx⟩ := htk hx
    have hbx := h.box b x hx
    have hcx := hc b x hbn hx
    cases x with
    | dead => trivial
    | cells cs k =>
      obtain ⟨β, c, el, fz, h1, h2, h3, h4, h5, h6, h7, h8⟩ := hbx
      refine ⟨β, c, el, fz, hcut h1 hbn, h2, h3, h4, fun j d hj => ?_, fun hk => ⟨lay_none h hbn ⟨_, hx, by simp⟩ h1 (h6 hk).1, (h6 hk).2⟩, fun hk j v hj hv => lay_le _ _ _ (h7 hk j v hj hv), h8⟩
      obtain ⟨v, hv, hr⟩ := h5 j d hj
      have hu : d.under n = true := underAll_iff.1 hcx d (List.mem_of_getElem? hj)
      exact ⟨v, hv, (hr.cut hu).mono lay_le (Inj.le_refl _)⟩
    | map es clock =>
      obtain ⟨β, m, es', h1, h2, h3, h4⟩ := hbx
      exact ⟨β, m, es', hcut h1 hbn, h2, h3.cut lay_le hcx, lay_none h hbn ⟨_, hx, by simp⟩ h1 h4⟩
    | siter s p =>
      obtain ⟨β, m, h1, h2, h4⟩ := hbx
      exact ⟨β, m, hcut h1 hbn, h2, lay_none h hbn ⟨_, hx, by simp⟩ h1 h4⟩
  · obtain ⟨hbn, hb⟩ := hlt hb
    obtain ⟨hbn', hb'⟩ := hlt hb'
    refine h.sep b b' β m m' ?_ ?_ hb hb'
    · rcases ho with ⟨cs, k, hs, hk⟩ | ⟨es, k, hs⟩ | ⟨s, p, hs⟩
      · exact .inl ⟨_, _, (htk hs).2, hk⟩
      · exact .inr (.inl ⟨_, _, (htk hs).2⟩)
      · exact .inr (.inr ⟨_, _, (htk hs).2⟩)
    · obtain ⟨x, hx, hd⟩ := hl; exact ⟨x, (htk hx).2, hd⟩

/-- A call's step, what it has laid become data. -/
theorem Step.take {M' : Mem} {σ' : Inj} {S' : Store} {w' : World} (hr : Rel M σ S w) (h : Step M σ S w M' σ' S' w') (hc : Closed S.length S') (hn : S.length ≤ S'.length) :
    Step M σ S w (M'.lay S.length σ' S' w') (σ'.cut S.length) (S'.take S.length) w' := by
  refine ⟨Mem.le_trans h.mem lay_le, fun β o v hm => ?_, fun b p hb => ?_, h.rel.take hc hn, h.keeps, fun b β m ho hb hβ => ?_⟩
  · rcases lay_news h.rel hm with hm | ⟨b, m, cs, k, hbn, hb, hs, hk⟩
    · exact h.news β o v hm
    · by_cases hβ : β < w.heap.size
      · obtain ⟨b', m', ho', hb'⟩ := h.owns b β m (.inl ⟨cs, k, hs, hk⟩) hb hβ
        exact .inr (.inr ⟨b', m', ho', hb'⟩)
      · exact .inr (.inl (by omega))
  · unfold Inj.cut; rw [if_pos (hr.dom b p.1 p.2 hb).1]; exact h.inj b p hb
  · have hb2 : σ' b = some (β, m) := Inj.cut_le σ' _ _ _ hb
    have htk : ∀ {x : Box}, (S'.take S.length)[b]? = some x → S'[b]? = some x := fun {x} hx => by
      rw [List.getElem?_take] at hx; split at hx
      · exact hx
      · cases hx
    refine h.owns b β m ?_ hb2 hβ
    rcases ho with ⟨cs, k, hs, hk⟩ | ⟨es, k, hs⟩ | ⟨s, p, hs⟩
    · exact .inl ⟨_, _, htk hs, hk⟩
    · exact .inr (.inl ⟨_, _, htk hs⟩)
    · exact .inr (.inr ⟨_, _, htk hs⟩)

/-- A caller's store is left alone by a call that sees none of it. -/
theorem Step.away {M' : Mem} {S' : Store} {w' : World} {σ' : Inj} (hr : Rel M σ S w) (h : Step M noInj [] w M' σ' S' w') : Step M σ S w (M'.lay 0 σ' S' w') σ S w' := by
  have hc : Closed 0 S' := fun b x hb => absurd hb (by omega)
  have h0 : Step M noInj [] w (M'.lay 0 σ' S' w') (σ'.cut 0) (S'.take 0) w' := h.take (S := []) ⟨hr.mem, fun b β n hb => by simp [noInj] at hb, fun b x hb => by simp at hb, fun b b' β n n' ho => by rcases ho with ⟨_, _, h, _⟩ | ⟨_, _, h⟩ | ⟨_, _, h⟩ <;> simp at h⟩ hc (by simp)
  have noown : ∀ b, ¬ Owns [] b := fun b ho => by rcases ho with ⟨_, _, h, _⟩ | ⟨_, _, h⟩ | ⟨_, _, h⟩ <;> simp at h
  have hnews : ∀ β o v, M'.lay 0 σ' S' w' β o = some v → M β o = some v ∨ w.heap.size ≤ β := fun β o v hm => by
    rcases h0.news β o v hm with h | h | ⟨b, n, ho, _⟩
    · exact .inl h
    · exact .inr h
    · exact absurd ho (noown b)
  have hblock : ∀ β, β < w.heap.size → w'.heap[β]? = w.heap[β]? := fun β hβ => h0.keeps.block β hβ fun b n ho => absurd ho (noown b)
  refine ⟨h0.mem, fun β o v hm => ?_, Inj.le_refl σ, ⟨h0.rel.mem, fun b β n hb => ⟨(hr.dom b β n hb).1, Nat.lt_of_lt_of_le (hr.dom b β n hb).2 h0.keeps.size⟩, fun b x hx => ?_, hr.sep⟩, ⟨h0.keeps.os, h0.keeps.tape, h0.keeps.output, h0.keeps.size, fun β hβ _ => hblock β hβ⟩, fun b β n ho hb _ => ⟨b, n, ho, hb⟩⟩
  · rcases hnews β o v hm with h | h
    · exact .inl h
    · exact .inr (.inl h)
  · refine (hr.box b x hx).mono h0.mem (Inj.le_refl σ) (fun β n hb _ => hblock β (hr.dom b β n hb).2) fun β n hb hno o => ?_
    cases hm : M'.lay 0 σ' S' w' β o with
    | none => rfl
    | some v =>
      rcases hnews β o v hm with h | h
      · rw [hno o] at h; cases h
      · have := (hr.dom b β n hb).2; omega
end
end Go.Dv
