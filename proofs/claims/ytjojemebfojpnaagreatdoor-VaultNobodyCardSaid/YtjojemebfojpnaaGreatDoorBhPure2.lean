/- Operations that only reckon, more: slicing, '==', arithmetic, conversions, assertions. -/
import Derived.Test.YtjojemebfojpnaaGreatDoorBhPure
import Derived.Laws.StructEq
import Derived.ChangeKeysEq
set_option linter.unusedVariables false
set_option linter.unusedSimpArgs false
namespace Go.Dv
open Go

/-- Two optional operands. -/
inductive OVR (M : Mem) (σ : Inj) : Option DV → Option Value → Prop
  | none : OVR M σ none none
  | some {d : DV} {v : Value} : VR M σ d v → OVR M σ (some d) (some v)

section
variable {P : Types} {M : Mem} {σ : Inj} {S : Store} {w : World}

theorem boundD_sound {y y' i : Nat} {d : DV} {v : Value} {code : BoundsCode} (hv : VR M σ d v) (hb : boundD y d = some i) (hy : y ≤ y') :
    (∀ w, (Instr.sliceBound v y' code).run P.prog w = .ok i w) ∧ i ≤ y := by
  unfold boundD at hb
  split at hb
  · rename_i k n
    split at hb
    · rename_i hc
      injection hb with hb; subst hb
      cases hv
      have h : 0 ≤ n ∧ n ≤ (y' : Int) := by omega
      exact ⟨fun w => by simp [Instr.sliceBound, asIntOf, h], by omega⟩
    · cases hb
  · cases hb

theorem boundsD_sound {isSlice : Bool} {len cap c l h m : Nat} {lo hi mx : Option DV} {vlo vhi vmx : Option Value} (h1 : OVR M σ lo vlo) (h2 : OVR M σ hi vhi) (h3 : OVR M σ mx vmx)
    (hb : boundsD len cap lo hi mx = some (l, h, m)) (hc : cap ≤ c) (hl : len ≤ cap) :
    (∀ w, (Instr.sliceBounds isSlice len c vlo vhi vmx).run P.prog w = .ok (l, h, if vmx.isSome then m else c) w) ∧ l ≤ h ∧ h ≤ m ∧ m ≤ cap ∧ (mx = none → m = cap) := by
  unfold boundsD at hb
  cases h3 with
  | none =>
    simp only at hb
    cases h2 with
    | none =>
      simp only [Option.isNone_none, if_true] at hb
      cases h1 with
      | none =>
        simp only [Option.some.injEq, Prod.mk.injEq] at hb
        obtain ⟨rfl, rfl, rfl⟩ := hb
        exact ⟨fun w => by simp [Instr.sliceBounds], by omega, hl, Nat.le_refl _, fun _ => rfl⟩
      | some hlo =>
        simp only at hb
        split at hb
        · rename_i l' hb'
          simp only [Option.some.injEq, Prod.mk.injEq] at hb
          obtain ⟨rfl, rfl, rfl⟩ := hb
          obtain ⟨r1, r2⟩ := boundD_sound (P := P) (code := .sliceB) hlo hb' (Nat.le_refl _)
          exact ⟨fun w => by simp [Instr.sliceBounds, r1], r2, hl, Nat.le_refl _, fun _ => rfl⟩
        · cases hb
    | some hhi =>
      simp only at hb
      split at hb
      · rename_i h' hbh
        obtain ⟨r3, r4⟩ := boundD_sound (P := P) (y' := c) (code := (if isSlice then .sliceAcap else .sliceAlen)) hhi hbh hc
        cases h1 with
        | none =>
          simp only [Option.some.injEq, Prod.mk.injEq] at hb
          obtain ⟨rfl, rfl, rfl⟩ := hb
          exact ⟨fun w => by simp [Instr.sliceBounds, r3], by omega, r4, Nat.le_refl _, fun _ => rfl⟩
        | some hlo =>
          simp only at hb
          split at hb
          · rename_i l' hb'
            simp only [Option.some.injEq, Prod.mk.injEq] at hb
            obtain ⟨rfl, rfl, rfl⟩ := hb
            obtain ⟨r1, r2⟩ := boundD_sound (P := P) (code := .sliceB) hlo hb' (Nat.le_refl _)
            exact ⟨fun w => by simp [Instr.sliceBounds, r1, r3], r2, r4, Nat.le_refl _, fun _ => rfl⟩
          · cases hb
      · cases hb
  | some hmx =>
    simp only at hb
    split at hb
    · rename_i m' hbm
      obtain ⟨r5, r6⟩ := boundD_sound (P := P) (y' := c) (code := (if isSlice then .slice3Acap else .slice3Alen)) hmx hbm hc
      cases h2 with
      | none => simp at hb
      | some hhi =>
        simp only at hb
        split at hb
        · rename_i h' hbh
          obtain ⟨r3, r4⟩ := boundD_sound (P := P) (code := .slice3B) hhi hbh (Nat.le_refl _)
          cases h1 with
          | none =>
            simp only [Option.some.injEq, Prod.mk.injEq] at hb
            obtain ⟨rfl, rfl, rfl⟩ := hb
            exact ⟨fun w => by simp [Instr.sliceBounds, r3, r5], by omega, r4, r6, fun e => by cases e⟩
          | some hlo =>
            simp only at hb
            split at hb
            · rename_i l' hb'
              simp only [Option.some.injEq, Prod.mk.injEq] at hb
              obtain ⟨rfl, rfl, rfl⟩ := hb
              obtain ⟨r1, r2⟩ := boundD_sound (P := P) (code := .slice3C) hlo hb' (Nat.le_refl _)
              exact ⟨fun w => by simp [Instr.sliceBounds, r1, r3, r5], r2, r4, r6, fun e => by cases e⟩
            · cases hb
        · cases hb
    · cases hb

theorem extract_str (s : List UInt8) (l h : Nat) : (⟨s.toArray⟩ : ByteArray).extract l h = ⟨((s.take h).drop l).toArray⟩ := by
  apply ByteArray.ext
  rw [ByteArray.data_extract]
  apply Array.ext'
  simp [List.extract_eq_take_drop, List.drop_take]

theorem rows_nil_or {β o sz size : Nat} {rows : List (List DV)} (h : VRows M β o sz rows) (ha : (rows.all fun r => decide (r.length = size)) = true) : rows = [] ∨ size = sz := by
  cases h with
  | nil => exact .inl rfl
  | cons h1 h2 h3 =>
    simp only [List.all_cons, Bool.and_eq_true, decide_eq_true_eq] at ha
    exact .inr (by omega)

theorem sliceD_sound {t : TypeId} {x d : DV} {v : Value} {lo hi mx : Option DV} {vlo vhi vmx : Option Value} (hx : VR M σ x v) (h1 : OVR M σ lo vlo) (h2 : OVR M σ hi vhi) (h3 : OVR M σ mx vmx)
    (hd : sliceD P t x lo hi mx = some d) : ∃ u, (∀ w, (Instr.sliceAt t v vlo vhi vmx).run P.prog w = .ok u w) ∧ VR M σ d u := by
  have hmx : vmx.isSome = mx.isSome := by cases h3 <;> rfl
  unfold sliceD at hd
  split at hd
  · rename_i s hu
    cases hx
    split at hd
    · rename_i l h m hb
      split at hd
      · rename_i hnone
        injection hd with hd; subst hd
        have hvm : vmx.isSome = false := by rw [hmx]; cases mx <;> simp_all
        obtain ⟨r, _⟩ := boundsD_sound (P := P) (isSlice := false) h1 h2 .none hb (Nat.le_refl _) (Nat.le_refl _)
        refine ⟨.string ⟨((s.take h).drop l).toArray⟩, fun w => ?_, .str _⟩
        have hsz : (⟨s.toArray⟩ : ByteArray).size = s.length := by simp [ByteArray.size]
        simp [Instr.sliceAt, run_underlyingD hu, Instr.slice, hvm, hsz, r, extract_str]
      · cases hd
    · cases hd
  · rename_i elem hu
    cases hx
    split at hd
    · rename_i q n hb hse
      injection hd with hd; subst hd
      obtain ⟨l, h, m⟩ := q
      obtain ⟨r, a1, a2, a3, _⟩ := boundsD_sound (P := P) (isSlice := true) h1 h2 h3 hb (Nat.le_refl _) (Nat.le_refl _)
      have e1 : m = 0 := by omega
      have e2 : h = 0 := by omega
      have e3 : l = 0 := by omega
      subst e1 e2 e3
      exact ⟨.slice none 0 0, fun w => by simp [Instr.sliceAt, run_underlyingD hu, Instr.slice, r, run_sizeOfD hse], .nils⟩
    · cases hd
  · rename_i elem rows ex hu
    split at hd
    · rename_i l h m size hb hse
      split at hd
      · rename_i hall
        injection hd with hd; subst hd
        cases hx with
        | sl hrows g1 g2 =>
        rename_i β o sz c
        obtain ⟨r, a1, a2, a3, a4⟩ := boundsD_sound (P := P) (isSlice := true) h1 h2 h3 hb g1 (Nat.le_refl _)
        generalize hmc : (if vmx.isSome then m else c) = mc at r
        have hmc2 : m ≤ mc := by rw [← hmc]; split <;> omega
        have hlen : ((rows.take h).drop l).length = h - l := by simp; omega
        have hrows' : VRows M β (if mc = l then o else o + l * size) sz ((rows.take h).drop l) := by
          rcases rows_nil_or hrows hall with e | e
          · subst e; simp; exact .nil
          · split
            · have : (rows.take h).drop l = [] := by apply List.drop_eq_nil_of_le; simp; omega
              rw [this]; exact .nil
            · subst e; exact (hrows.take h).drop l
        have hv := VR.sl (σ := σ) (c := mc - l) (ex := (mx.isSome || ex) && decide (h = m)) hrows' (by rw [hlen]; omega) (fun hex => by
          simp only [Bool.and_eq_true, Bool.or_eq_true, decide_eq_true_eq] at hex
          rw [hlen]
          obtain ⟨hex, rfl⟩ := hex
          cases h3 with
          | none =>
            have h4 := a4 rfl
            simp only [Option.isSome_none, Bool.false_eq_true, false_or] at hex
            have h5 := g2 hex
            simp at hmc; omega
          | some _ => simp at hmc; omega)
        rw [hlen] at hv
        refine ⟨_, fun w => ?_, hv⟩
        by_cases hml : mc = l
        · simp [Instr.sliceAt, run_underlyingD hu, Instr.slice, r, run_sizeOfD hse, hml]
        · simp [Instr.sliceAt, run_underlyingD hu, Instr.slice, r, run_sizeOfD hse, hml, addr_add]
      · cases hd
    · cases hd
  · rename_i elem b off sz len cap hu
    split at hd
    · rename_i size hse
      split at hd
      · rename_i hsz
        subst hsz
        cases hx with
        | msl hb0 g1 g2 g3 =>
        rename_i β n c
        split at hd
        · rename_i c'
          have hc' := g2 c' rfl
          subst hc'
          split at hd
          · rename_i l h m hb
            injection hd with hd; subst hd
            obtain ⟨r, a1, a2, a3, a4⟩ := boundsD_sound (P := P) (isSlice := true) h1 h2 h3 hb (Nat.le_refl _) g1
            have hmm : (if vmx.isSome then m else c) = m := by
              split
              · rfl
              · rename_i hn
                rw [hmx] at hn
                cases mx with
                | none => exact (a4 rfl).symm
                | some _ => simp at hn
            rw [hmm] at r
            refine ⟨.slice (some ⟨β, if m = l then off else off + l * size, none⟩) (h - l) (m - l), fun w => ?_, .msl hb0 (by omega) (fun k hk => by injection hk) (fun e => by cases e)⟩
            by_cases hml : m = l
            · simp [Instr.sliceAt, run_underlyingD hu, Instr.slice, r, run_sizeOfD hse, hml]
            · simp [Instr.sliceAt, run_underlyingD hu, Instr.slice, r, run_sizeOfD hse, hml, addr_add]
          · cases hd
        · have g3' := g3 rfl
          split at hd
          · cases h3
            split at hd
            · rename_i l h m hb
              obtain ⟨r, a1, a2, a3, a4⟩ := boundsD_sound (P := P) (isSlice := true) h1 h2 .none hb g1 (Nat.le_refl _)
              simp only [Option.isSome_none, Bool.false_eq_true, if_false] at r
              split at hd
              · rename_i hl0
                subst hl0
                injection hd with hd; subst hd
                refine ⟨.slice (some ⟨β, off, none⟩) h c, fun w => ?_, .msl hb0 (by omega) (fun k hk => by cases hk) (fun _ => g3')⟩
                by_cases hml : c = 0
                · subst hml
                  simp [Instr.sliceAt, run_underlyingD hu, Instr.slice, r, run_sizeOfD hse]
                · simp [Instr.sliceAt, run_underlyingD hu, Instr.slice, r, run_sizeOfD hse, hml, addr_add]
              · split at hd
                · rename_i hl0 hlh
                  injection hd with hd; subst hd
                  refine ⟨.slice (some ⟨β, off + l * size, none⟩) (h - l) (c - l), fun w => ?_, .msl hb0 (by omega) (fun k hk => by cases hk) (fun _ => ?_)⟩
                  · have hml : ¬ c = l := by omega
                    simp [Instr.sliceAt, run_underlyingD hu, Instr.slice, r, run_sizeOfD hse, hml, addr_add]
                  · rw [← g3', Nat.add_assoc, ← Nat.add_mul]; congr 2; omega
                · cases hd
            · cases hd
          · cases hd
      · cases hd
    · cases hd
  · rename_i n elem b off hu
    split at hd
    · rename_i l h m size hb hse
      injection hd with hd; subst hd
      cases hx with
      | ref hb0 =>
      rename_i β k
      obtain ⟨r, a1, a2, a3, a4⟩ := boundsD_sound (P := P) (isSlice := false) h1 h2 h3 hb (Nat.le_refl _) (Nat.le_refl _)
      have hmm : (if vmx.isSome then m else n) = m := by
        split
        · rfl
        · rename_i hn
          rw [hmx] at hn
          cases mx with
          | none => exact (a4 rfl).symm
          | some _ => simp at hn
      rw [hmm] at r
      refine ⟨.slice (some ⟨β, if m = l then off else off + l * size, none⟩) (h - l) (m - l), fun w => ?_, .msl hb0 (by omega) (fun k hk => by injection hk) (fun e => by cases e)⟩
      by_cases hml : m = l
      · simp [Instr.sliceAt, run_underlyingD hu, Instr.sureAddr, r, run_sizeOfD hse, hml]
      · simp [Instr.sliceAt, run_underlyingD hu, Instr.sureAddr, r, run_sizeOfD hse, hml, addr_add]
    · cases hd
  · cases hd

theorem str_beq (a b : List UInt8) : ((⟨a.toArray⟩ : ByteArray) == ⟨b.toArray⟩) = (a == b) := by
  rw [beq_toListBytes, ByteArray.toList_eq, ByteArray.toList_eq]

theorem str_toList (a : List UInt8) : (⟨a.toArray⟩ : ByteArray).toList = a := by rw [ByteArray.toList_eq]

theorem fieldsEq_sound {D : Nat} {eq : TypeId → DV → DV → Option Bool} (heq : ∀ t x y vx vy b, VR M σ x vx → VR M σ y vy → eq t x y = some b → ∀ w, (Op.equalIn D t vx vy).run P.prog w = .ok b w)
    {xs ys : List DV} {vx vy : List Value} (hx : VRs M σ xs vx) (hy : VRs M σ ys vy) : ∀ {fs : List Field} {b : Bool}, fieldsEq P eq xs ys fs = some b → ∀ w, (Op.eqFields D vx.toArray vy.toArray fs).run P.prog w = .ok b w
  | [], b, h, w => by simp [fieldsEq] at h; subst h; rfl
  | f :: fs, b, h, w => by
    unfold fieldsEq at h
    unfold Op.eqFields
    split at h
    · rename_i hn
      rw [if_pos hn]
      split at h
      · rename_i a c ha hc
        obtain ⟨ua, ra, va⟩ := partD_sound (P := P) hx ha
        obtain ⟨uc, rc, vc⟩ := partD_sound (P := P) hy hc
        cases he : eq f.type a c with
        | none => simp [he] at h
        | some r =>
          have hr := heq _ _ _ _ _ _ va vc he
          cases r with
          | true =>
            simp only [he] at h
            simp [ra, rc, hr, fieldsEq_sound heq hx hy h]
          | false =>
            simp only [he, Option.some.injEq] at h; subst h
            simp [ra, rc, hr]
      · cases h
    · rename_i hn
      rw [if_neg hn]
      exact fieldsEq_sound heq hx hy h w

theorem elemsEq_sound {D n : Nat} {elem : TypeId} {eq : TypeId → DV → DV → Option Bool} (heq : ∀ t x y vx vy b, VR M σ x vx → VR M σ y vy → eq t x y = some b → ∀ w, (Op.equalIn D t vx vy).run P.prog w = .ok b w)
    {xs ys : List DV} {vx vy : List Value} (hx : VRs M σ xs vx) (hy : VRs M σ ys vy) : ∀ {is : List Nat} {b : Bool}, elemsEq P eq elem n xs ys is = some b → ∀ w, (Op.eqItems D elem n vx.toArray vy.toArray is).run P.prog w = .ok b w
  | [], b, h, w => by simp [elemsEq] at h; subst h; rfl
  | i :: is, b, h, w => by
    unfold elemsEq at h
    unfold Op.eqItems
    split at h
    · rename_i a c ha hc
      obtain ⟨ua, ra, va⟩ := partD_sound (P := P) hx ha
      obtain ⟨uc, rc, vc⟩ := partD_sound (P := P) hy hc
      cases he : eq elem a c with
      | none => simp [he] at h
      | some r =>
        have hr := heq _ _ _ _ _ _ va vc he
        cases r with
        | true =>
          simp only [he] at h
          simp [ra, rc, hr, elemsEq_sound heq hx hy h]
        | false =>
          simp only [he, Option.some.injEq] at h; subst h
          simp [ra, rc, hr]
    · cases h

theorem eqT_sound : ∀ (d D : Nat), d ≤ D → ∀ (t : TypeId) (x y : DV) (vx vy : Value) (b : Bool), VR M σ x vx → VR M σ y vy → eqT P d t x y = some b → ∀ w, (Op.equalIn D t vx vy).run P.prog w = .ok b w
  | 0, D, _, t, x, y, vx, vy, b, hx, hy, h, w => by simp [eqT] at h
  | d + 1, 0, hD, t, x, y, vx, vy, b, hx, hy, h, w => by omega
  | d + 1, D + 1, hD, t, x, y, vx, vy, b, hx, hy, h, w => by
    unfold eqT at h
    split at h
    case h_23 fields xs ys hu =>
      cases hx with
      | agg hx =>
      cases hy with
      | agg hy =>
      split at h
      · cases h
      · rename_i hs
        have hfo : P.prog.fieldsOf t = fields := by simp [Program.fieldsOf, Types.und hu]
        rw [run_equalIn_struct w D t _ _ (by rw [hfo]; exact Types.und hu) (by simpa using hs), hfo]
        exact fieldsEq_sound (eqT_sound d D (by omega)) hx hy h w
    case h_24 len elem xs ys hu =>
      cases hx with
      | agg hx =>
      cases hy with
      | agg hy =>
      split at h
      · rename_i n hs
        obtain ⟨i, hi, hin⟩ := sizeD_info hs
        rw [run_equalIn_array w D _ _ (Types.und hu) (P.ok _ _ hi)]
        have : P.prog.cellsOf elem = n := by simp [Program.cellsOf, P.ok _ _ hi, hin]
        rw [this]
        exact elemsEq_sound (eqT_sound d D (by omega)) hx hy h w
      · cases h
    case h_2 k1 k2 x1 k3 x2 hu =>
      cases hx; cases hy
      split at h
      · rename_i hk; subst hk; simp only [Option.some.injEq] at h; subst h
        unfold Op.equalIn; rw [Sem.run_bind, run_underlyingD hu, Result.andThen_ok]
        simp only [if_true]; rfl
      · cases h
    case h_3 x1 x2 hu =>
      cases hx; cases hy; simp only [Option.some.injEq] at h; subst h
      unfold Op.equalIn; rw [Sem.run_bind, run_underlyingD hu, Result.andThen_ok, ← str_beq]; rfl
    all_goals first
      | (cases h; done)
      | (rename_i hu; cases hx; cases hy; simp only [Option.some.injEq] at h; subst h
         unfold Op.equalIn; rw [Sem.run_bind, run_underlyingD hu, Result.andThen_ok]; rfl)
end
end Go.Dv
