/- Maps. -/
import Derived.Test.YtjojemebfojpnaaGreatDoorBhAppend
set_option linter.unusedVariables false
set_option linter.unusedSimpArgs false
namespace Go.Dv
open Go

section
variable {P : Types} {M : Mem} {σ : Inj} {S : Store} {w : World}

theorem Entries.length {a b} (h : Entries M σ a b) : a.length = b.length := by
  induction h with
  | nil => rfl
  | cons _ _ _ _ _ ih => simp [ih]

theorem Entries.get {a b} (h : Entries M σ a b) : ∀ {i : Nat} {k v : DV} {born : Nat}, a[i]? = some (k, v, born) → ∃ e, b[i]? = some e ∧ VR M σ k e.key ∧ VR M σ v e.val ∧ e.born = born := by
  induction h with
  | nil => intro i k v born h; simp at h
  | cons h0 h1 h2 h3 h4 ih =>
    intro i k v born h
    cases i with
    | zero => simp at h; obtain ⟨rfl, rfl, rfl⟩ := h; exact ⟨_, rfl, h1, h2, h3⟩
    | succ i => simp at h; simpa using ih h

theorem Entries.set {a b} (h : Entries M σ a b) {k v : DV} {born : Nat} {e : MapEntry} (hk : k.under 0 = true) (h1 : VR M σ k e.key) (h2 : VR M σ v e.val) (h3 : e.born = born) : ∀ (i : Nat), Entries M σ (a.set i (k, v, born)) (b.set i e) := by
  induction h with
  | nil => intro i; exact .nil
  | cons g0 g1 g2 g3 g4 ih =>
    intro i
    cases i with
    | zero => exact .cons hk h1 h2 h3 g4
    | succ i => exact .cons g0 g1 g2 g3 (ih i)

theorem Entries.append {a b} (h : Entries M σ a b) {k v : DV} {born : Nat} {e : MapEntry} (hk : k.under 0 = true) (h1 : VR M σ k e.key) (h2 : VR M σ v e.val) (h3 : e.born = born) : Entries M σ (a ++ [(k, v, born)]) (b ++ [e]) := by
  induction h with
  | nil => exact .cons hk h1 h2 h3 .nil
  | cons g0 g1 g2 g3 g4 ih => exact .cons g0 g1 g2 g3 ih

theorem Entries.erase {a b} (h : Entries M σ a b) : ∀ (i : Nat), Entries M σ (a.eraseIdx i) (b.eraseIdx i) := by
  induction h with
  | nil => intro i; exact .nil
  | cons g0 g1 g2 g3 g4 ih =>
    intro i
    cases i with
    | zero => exact g4
    | succ i => exact .cons g0 g1 g2 g3 (ih i)

theorem keyD_under {t : TypeId} {k : DV} (h : keyD P t k = true) : k.under 0 = true := by
  unfold keyD at h
  split at h
  · rfl
  · rfl
  · rfl
  · split at h
    · simp only [Bool.and_eq_true] at h
      have h2 := h.2
      simp only [DV.under, underAll_iff]
      intro d hd
      have := List.all_eq_true.1 h2 d hd
      split at this
      · rfl
      · cases this
    · cases h
  · cases h

theorem ints_part {elem : TypeId} {k : IntKind} (hu : P.underlying elem = some (.int k)) {vs : Array Value} {i : Nat} {v : Value} (hv : vs[i]? = some v) (w : World) : (part elem vs i).run P.prog w = .ok v w := by
  simp [part, isAgg, run_underlyingD hu, hv]

theorem checkKey_ok {t : TypeId} {k : DV} {v : Value} {empty : Bool} (hk : VR M σ k v) (h : keyD P t k = true) (w : World) : (Instr.checkKey empty 10000 t v).run P.prog w = .ok () w := by
  have e : ∀ n : Nat, (Instr.checkKey empty (n + 1) t v).run P.prog w = .ok () w ∨ n = 0 := by
    intro n
    unfold keyD at h
    split at h
    · rename_i hu; cases hk; left; unfold Instr.checkKey; simp [run_underlyingD hu]
    · rename_i hu; cases hk; left; unfold Instr.checkKey; simp [run_underlyingD hu]
    · rename_i hu; cases hk; left; unfold Instr.checkKey; simp [run_underlyingD hu]
    · rename_i len elem cs hu
      split at h
      · rename_i ki hue hse
        simp only [Bool.and_eq_true, decide_eq_true_eq] at h
        cases hk with
        | agg hvs =>
        rename_i vs
        cases n with
        | zero => right; rfl
        | succ n =>
          left
          unfold Instr.checkKey
          simp only [Sem.run_bind, run_underlyingD hu, Result.andThen_ok]
          simp only [Std.Legacy.Range.forIn_eq_forIn_range', Std.Legacy.Range.size, Nat.sub_zero, Nat.add_one_sub_one, Nat.div_one]
          have all : ∀ i ∈ List.range' 0 len, ∃ k n, vs[i]? = some (.int k n) := by
            intro i hi
            simp only [List.mem_range'_1] at hi
            have hlt : i < cs.length := by omega
            obtain ⟨u, hu1, hu2⟩ := hvs.get (List.getElem?_eq_getElem hlt)
            have := List.all_eq_true.1 h.2 cs[i] (List.getElem_mem hlt)
            split at this
            · rename_i hci; rw [hci] at hu2; cases hu2; exact ⟨_, _, hu1⟩
            · cases this
          generalize List.range' 0 len = is at all
          induction is with
          | nil => simp
          | cons i is ih =>
            obtain ⟨ki', n', hvi⟩ := all i (by simp)
            have hp := ints_part hue (vs := vs.toArray) (i := i) (v := .int ki' n') (by simpa using hvi) w
            have hck : (Instr.checkKey empty (n + 1) elem (.int ki' n')).run P.prog w = .ok () w := by unfold Instr.checkKey; simp [run_underlyingD hue]
            simp only [List.forIn_cons, Sem.run_bind, run_sizeOfD hse, Result.andThen_ok, Nat.mul_one, hp, hck, Sem.run_pure]
            exact ih (fun j hj => all j (by simp [hj]))
      · cases h
    · cases h
  rcases e 9999 with e | e
  · exact e
  · cases e

/-- What a search finds. -/
def FoundOk (M : Mem) (σ : Inj) (es : List (DV × DV × Nat)) (es' : List MapEntry) (i : Nat) : Option Found → Option (Nat × Value) → Prop
  | none, none => True
  | some f, some (j, v) => f.at_ = j ∧ i ≤ j ∧ es[j - i]? = some (f.key, f.val, f.born) ∧ VR M σ f.val v
  | _, _ => False

theorem FoundOk.cons {p e} {es : List (DV × DV × Nat)} {es' : List MapEntry} {i : Nat} {f : Option Found} {r : Option (Nat × Value)} (h : FoundOk M σ es es' (i + 1) f r) : FoundOk M σ (p :: es) (e :: es') i f r := by
  cases f with
  | none => cases r with
    | none => trivial
    | some r => exact h.elim
  | some f => cases r with
    | none => exact h.elim
    | some r =>
      obtain ⟨j, v⟩ := r
      obtain ⟨h1, h2, h3, h4⟩ := h
      refine ⟨h1, by omega, ?_, h4⟩
      rw [show j - i = (j - (i + 1)) + 1 by omega]; simpa using h3

theorem findAsking_sound {t : TypeId} {key : DV} {vk : Value} (hk : VR M σ key vk) : ∀ {es : List (DV × DV × Nat)} {es' : List MapEntry} {i : Nat} {f : Option Found}, Entries M σ es es' → findD P t key es i = some f →
    ∃ r, (∀ w, (Instr.findAsking t vk es' i).run P.prog w = .ok r w) ∧ FoundOk M σ es es' i f r
  | _, _, i, f, .nil, h => by simp [findD] at h; subst h; exact ⟨none, fun w => rfl, trivial⟩
  | _, _, i, f, .cons (k := k) (v := v) (born := born) (e := e) (es := es) (es' := es') h0 h1 h2 h3 h4, h => by
    unfold findD at h
    cases he : eqT P eqDepth t key k with
    | none => simp [he] at h
    | some b =>
      have hr := eqT_sound (P := P) eqDepth Op.maxDepth (by decide) t key k vk e.key b hk h1 he
      cases b with
      | true =>
        simp only [he, Option.some.injEq] at h; subst h
        exact ⟨some (i, e.val), fun w => by simp [Instr.findAsking, Op.equal, hr], rfl, Nat.le_refl _, by simp, h2⟩
      | false =>
        simp only [he] at h
        obtain ⟨r, hr1, hr2⟩ := findAsking_sound hk h4 h
        exact ⟨r, fun w => by simp [Instr.findAsking, Op.equal, hr, hr1], hr2.cons⟩

theorem sameNow_eq {d : Nat} {t : TypeId} {kd : TypeDesc} {key k : DV} {vk ve : Value} {b b' : Bool} (hu : P.underlying t = some kd) (hk : VR M σ key vk) (he : VR M σ k ve) (h : Instr.sameNow kd vk ve = some b) (h' : eqT P (d + 1) t key k = some b') : b = b' := by
  unfold Instr.sameNow at h
  unfold eqT at h'
  rw [hu] at h'
  split at h
  · split at h
    · rename_i hkk
      subst hkk
      cases hk <;> cases he <;> simp_all
    · cases h
  · cases hk <;> cases he <;> simp_all
    rw [← h', ← h, str_beq]
  · cases hk <;> cases he <;> simp_all
  · cases h

theorem findNow_sound {t : TypeId} {kd : TypeDesc} {key : DV} {vk : Value} (hu : P.underlying t = some kd) (hk : VR M σ key vk) : ∀ {es : List (DV × DV × Nat)} {es' : List MapEntry} {i : Nat} {f : Option Found} {r}, Entries M σ es es' → findD P t key es i = some f →
    Instr.findNow kd vk es' i = some r → FoundOk M σ es es' i f r
  | _, _, i, f, r, .nil, h, hn => by simp [findD] at h; subst h; simp [Instr.findNow] at hn; subst hn; trivial
  | _, _, i, f, r, .cons (k := k) (v := v) (born := born) (e := e) (es := es) (es' := es') h0 h1 h2 h3 h4, h, hn => by
    unfold findD at h
    unfold Instr.findNow at hn
    cases he : eqT P eqDepth t key k with
    | none => simp [he] at h
    | some b =>
      split at hn
      · rename_i hs
        have := sameNow_eq (d := 39) hu hk h1 hs he
        subst this
        simp only [he, Option.some.injEq] at h hn; subst h hn
        exact ⟨rfl, Nat.le_refl _, by simp, h2⟩
      · rename_i hs
        have := sameNow_eq (d := 39) hu hk h1 hs he
        subst this
        simp only [he] at h
        exact (findNow_sound hu hk h4 h hn).cons
      · cases hn

theorem findKey_sound {t : TypeId} {key : DV} {vk : Value} {es : List (DV × DV × Nat)} {es' : List MapEntry} {f : Option Found} (hkd : keyD P t key = true) (hk : VR M σ key vk) (he : Entries M σ es es') (h : findD P t key es 0 = some f) :
    ∃ r, (∀ w, (Instr.findKey t vk es').run P.prog w = .ok r w) ∧ FoundOk M σ es es' 0 f r := by
  obtain ⟨kd, hu⟩ : ∃ kd, P.underlying t = some kd := by
    unfold keyD at hkd
    cases hu : P.underlying t with
    | none => simp [hu] at hkd
    | some kd => exact ⟨kd, rfl⟩
  cases hn : Instr.findNow kd vk es' 0 with
  | some r => exact ⟨r, fun w => by simp [Instr.findKey, run_underlyingD hu, hn], findNow_sound hu hk he h hn⟩
  | none =>
    obtain ⟨r, h1, h2⟩ := findAsking_sound hk he h
    exact ⟨r, fun w => by simp [Instr.findKey, run_underlyingD hu, hn, h1], h2⟩

theorem Rel.mapAt {b β n : Nat} {es : List (DV × DV × Nat)} {clock : Nat} (h : Rel M σ S w) (hb : σ b = some (β, n)) (hs : S[b]? = some (.map es clock)) :
    ∃ es' : Array MapEntry, w.heap[β]? = some (.map es' clock) ∧ Entries M σ es es'.toList ∧ ∀ o, M β o = none := by
  obtain ⟨β', n', es', h1, h2, h3, h4⟩ := h.box b _ hs
  rw [hb] at h1; injection h1 with h1; injection h1 with h1 h1'; subst h1
  exact ⟨es', h2, h3, h4⟩

theorem lookupD_sound {t : TypeId} {m key d : DV} {vm vk : Value} {ok : Bool} {S' : Store} {e : Eff} (h : Rel M σ S w) (hm : VR M σ m vm) (hk : VR M σ key vk) (hl : lookupD P t m key ok S = some (d, S', e)) :
    ∃ u, (Instr.lookup t vm vk ok).run P.prog w = .ok u w ∧ VR M σ d u ∧ S' = S := by
  unfold lookupD at hl
  split at hl
  · rename_i kt et hu
    split at hl
    · rename_i hkd
      split at hl
      · cases hm
        cases hz : zeroD P et with
        | none => simp [hz, pureR] at hl
        | some z =>
          simp only [hz, Option.map_some, pureR, Option.some.injEq, Prod.mk.injEq] at hl
          obtain ⟨rfl, rfl, rfl⟩ := hl
          obtain ⟨vz, hrz, hvz⟩ := run_zeroD M σ hz
          have hn : (Instr.findKey kt vk []).run P.prog w = .ok none w := by
            obtain ⟨r, h1, h2⟩ := findKey_sound (M := M) (σ := σ) (es := []) (es' := []) (f := none) hkd hk .nil rfl
            cases r with
            | none => exact h1 w
            | some r => exact h2.elim
          cases ok with
          | true => exact ⟨.tuple #[vz, .bool false], by simp [Instr.lookup, run_underlyingD hu, checkKey_ok hk hkd, hn, hrz], .tup (.cons hvz (.cons (.bool false) .nil)), rfl⟩
          | false => exact ⟨vz, by simp [Instr.lookup, run_underlyingD hu, checkKey_ok hk hkd, hn, hrz], hvz, rfl⟩
      · rename_i b
        split at hl
        · rename_i es clock hs
          cases hm with
          | mref hb =>
          rename_i β n
          obtain ⟨es', h1, h2, h3⟩ := h.mapAt hb hs
          split at hl
          · rename_i f hf
            simp only [Option.some.injEq, Prod.mk.injEq] at hl
            obtain ⟨rfl, rfl, rfl⟩ := hl
            obtain ⟨r, r1, r2⟩ := findKey_sound hkd hk h2 hf
            cases r with
            | none => exact r2.elim
            | some r =>
              obtain ⟨j, v⟩ := r
              obtain ⟨_, _, _, hv⟩ := r2
              cases ok with
              | true => exact ⟨.tuple #[v, .bool true], by simp [Instr.lookup, run_underlyingD hu, MapKept.run_getObj_map h1, checkKey_ok hk hkd, r1], .tup (.cons hv (.cons (.bool true) .nil)), rfl⟩
              | false => exact ⟨v, by simp [Instr.lookup, run_underlyingD hu, MapKept.run_getObj_map h1, checkKey_ok hk hkd, r1], hv, rfl⟩
          · rename_i hf
            obtain ⟨r, r1, r2⟩ := findKey_sound hkd hk h2 hf
            cases r with
            | some r => exact r2.elim
            | none =>
              cases hz : zeroD P et with
              | none => simp [hz, readR] at hl
              | some z =>
                simp only [hz, Option.map_some, readR, Option.some.injEq, Prod.mk.injEq] at hl
                obtain ⟨rfl, rfl, rfl⟩ := hl
                obtain ⟨vz, hrz, hvz⟩ := run_zeroD M σ hz
                cases ok with
                | true => exact ⟨.tuple #[vz, .bool false], by simp [Instr.lookup, run_underlyingD hu, MapKept.run_getObj_map h1, checkKey_ok hk hkd, r1, hrz], .tup (.cons hvz (.cons (.bool false) .nil)), rfl⟩
                | false => exact ⟨vz, by simp [Instr.lookup, run_underlyingD hu, MapKept.run_getObj_map h1, checkKey_ok hk hkd, r1, hrz], hvz, rfl⟩
          · cases hl
        · cases hl
      · cases hl
    · cases hl
  · cases hl

/-- A map is turned. -/
theorem turnMap {b β n : Nat} {es es2 : List (DV × DV × Nat)} {clock clock2 : Nat} {es' es2' : Array MapEntry} (h : Rel M σ S w) (hb : σ b = some (β, n)) (hs : S[b]? = some (.map es clock)) (hw : w.heap[β]? = some (.map es' clock)) (he : Entries M σ es2 es2'.toList) :
    (setObj β (.map es2' clock2)).run P.prog w = .ok () (setW w β (.map es2' clock2)) ∧ Step M σ S w M σ (S.set b (.map es2 clock2)) (setW w β (.map es2' clock2)) := by
  obtain ⟨_, _, _, h4⟩ := h.mapAt hb hs
  have ho : Owns S b := .inr (.inl ⟨_, _, hs⟩)
  obtain ⟨h1, h2⟩ := h.turn ho hb (.map es2' clock2) (.map es2 clock2) ⟨β, n, es2', hb, setW_same (lt_of_get hw), he, h4⟩
  refine ⟨MapKept.run_setObj_map _ hw, Mem.le_refl M, fun _ _ _ h => .inl h, Inj.le_refl σ, h1, h2, fun c γ m hoc hc hγ => ⟨c, m, ?_, hc⟩⟩
  by_cases e : c = b
  · subst e; exact ho
  · rcases hoc with ⟨cs, k, hy, hk⟩ | ⟨es, k, hy⟩ | ⟨s, p, hy⟩ <;> rw [List.getElem?_set_ne (Ne.symm e)] at hy
    · exact .inl ⟨_, _, hy, hk⟩
    · exact .inr (.inl ⟨_, _, hy⟩)
    · exact .inr (.inr ⟨_, _, hy⟩)

theorem cellsSame_bits {n : Nat} : ∀ {xs ys : List DV} {vx vy : List Value}, VRs M σ xs vx → VRs M σ ys vy → keySame.cellsSame xs ys = true → vx.length = vy.length ∧ (vx.zip vy).all (fun (x, y) => Instr.sameBits n x y) = true
  | _, _, _, _, .nil, .nil, _ => ⟨rfl, rfl⟩
  | _, _, _, _, .cons h1 h2, .nil, h => by cases h1 <;> simp [keySame.cellsSame] at h
  | _, _, _, _, .nil, .cons h1 h2, h => by simp [keySame.cellsSame] at h
  | _, _, _, _, .cons (d := d) h1 h2, .cons (d := d') h3 h4, h => by
    unfold keySame.cellsSame at h
    split at h
    · rename_i e; cases e
    · rename_i k a xs k' b ys e1 e2
      injection e1 with e1 e1'; injection e2 with e2 e2'
      subst e1 e1' e2 e2'
      cases h1; cases h3
      simp only [Bool.and_eq_true, beq_iff_eq] at h
      obtain ⟨⟨rfl, rfl⟩, h⟩ := h
      obtain ⟨i1, i2⟩ := cellsSame_bits (n := n) h2 h4 h
      refine ⟨by simp [i1], ?_⟩
      simp only [List.zip_cons_cons, List.all_cons, Bool.and_eq_true]
      exact ⟨by cases n <;> simp [Instr.sameBits], i2⟩
    · cases h

theorem keySame_bits {k key : DV} {vo vn : Value} (h1 : VR M σ k vo) (h2 : VR M σ key vn) (h : keySame k key = true) (w : World) : (Instr.keyThatStays vo vn).run P.prog w = .ok vn w := by
  have : Instr.sameBits 10000 vo vn = true := by
    unfold keySame at h
    split at h
    · cases h1; cases h2; simp only [Bool.and_eq_true, beq_iff_eq] at h; obtain ⟨rfl, rfl⟩ := h; simp [Instr.sameBits]
    · cases h1; cases h2; simp only [beq_iff_eq] at h; subst h; simp [Instr.sameBits, str_beq]
    · cases h1; cases h2; simp only [beq_iff_eq] at h; subst h; simp [Instr.sameBits]
    · cases h1 with
      | agg h1 =>
      cases h2 with
      | agg h2 =>
      obtain ⟨i1, i2⟩ := cellsSame_bits (n := 9999) h1 h2 h
      show Instr.sameBits (9999 + 1) _ _ = true
      unfold Instr.sameBits
      simp only [List.size_toArray, i1, beq_self_eq_true, Bool.true_and]
      exact i2
    · cases h
  simp [Instr.keyThatStays, this]

theorem modify_eq {es : Array MapEntry} {j : Nat} {en : MapEntry} (h : es[j]? = some en) (f : MapEntry → MapEntry) : es.modify j f = (es.toList.set j (f en)).toArray := by
  apply Array.ext'
  apply List.ext_getElem?
  intro l
  simp only [Array.getElem?_toList, Array.getElem?_modify, List.getElem?_set]
  have hlt := lt_of_get h
  have hen : es[j] = en := by rw [Array.getElem?_eq_getElem hlt] at h; injection h
  by_cases hl : j = l
  · subst hl; simp [hen, hlt]
  · simp [hl]

theorem updateD_sound {ro lim : Nat} {t : TypeId} {m key val d : DV} {vm vk vv : Value} {S' : Store} {e : Eff} (h : Rel M σ S w) (hm : VR M σ m vm) (hk : VR M σ key vk) (hv : VR M σ val vv) (hl : updateD P ro lim t m key val S = some (d, S', e)) :
    ∃ w', (Instr.mapUpdate t vm vk vv).run P.prog w = .ok () w' ∧ d = .tup [] ∧ Step M σ S w M σ S' w' := by
  unfold updateD at hl
  split at hl
  · rename_i kt et b hu
    split at hl
    · rename_i hc
      obtain ⟨hkd, hesc⟩ := hc
      split at hl
      · rename_i es clock hs
        cases hm with
        | mref hb =>
        rename_i β n
        obtain ⟨es', h1, h2, h3⟩ := h.mapAt hb hs
        split at hl
        · rename_i f hf
          split at hl
          · rename_i hsame
            simp only [unitR, Option.some.injEq, Prod.mk.injEq] at hl
            obtain ⟨rfl, rfl, rfl⟩ := hl
            obtain ⟨r, r1, r2⟩ := findKey_sound hkd hk h2 hf
            cases r with
            | none => exact r2.elim
            | some r =>
              obtain ⟨j, v⟩ := r
              obtain ⟨q1, q2, q3, q4⟩ := r2
              rw [Nat.sub_zero] at q3
              obtain ⟨en, g1, g2, g3, g4⟩ := h2.get q3
              have g1' : es'[j]? = some en := by simpa using g1
              have hks := keySame_bits (P := P) g2 hk hsame
              have hmod : es'.modify j (fun e => { e with key := vk, val := vv }) = (es'.toList.set j { en with key := vk, val := vv }).toArray := modify_eq g1' _
              obtain ⟨s1, s2⟩ := turnMap (P := P) h hb hs h1 (clock2 := clock) (es2 := es.set f.at_ (key, val, f.born)) (es2' := es'.modify j (fun e => { e with key := vk, val := vv }))
                (by rw [hmod]; simp only [q1]; exact h2.set (e := { en with key := vk, val := vv }) (keyD_under hkd) hk hv g4 j)
              refine ⟨_, ?_, rfl, s2⟩
              simp [Instr.mapUpdate, run_underlyingD hu, MapKept.run_getObj_map h1, checkKey_ok hk hkd, r1, g1', hks, s1]
          · cases hl
        · rename_i hf
          simp only [unitR, Option.some.injEq, Prod.mk.injEq] at hl
          obtain ⟨rfl, rfl, rfl⟩ := hl
          obtain ⟨r, r1, r2⟩ := findKey_sound hkd hk h2 hf
          cases r with
          | some r => exact r2.elim
          | none =>
            obtain ⟨s1, s2⟩ := turnMap (P := P) h hb hs h1 (clock2 := clock + 1) (es2 := es ++ [(key, val, clock)]) (es2' := es'.push { key := vk, val := vv, born := clock })
              (by simpa using h2.append (e := { key := vk, val := vv, born := clock }) (keyD_under hkd) hk hv rfl)
            refine ⟨_, ?_, rfl, s2⟩
            simp [Instr.mapUpdate, run_underlyingD hu, MapKept.run_getObj_map h1, checkKey_ok hk hkd, r1, s1]
        · cases hl
      · cases hl
    · cases hl
  · cases hl

theorem entryD_sound {ro : Nat} {t : TypeId} {m key d : DV} {vm vk : Value} {S' : Store} {e : Eff} (h : Rel M σ S w) (hm : VR M σ m vm) (hk : VR M σ key vk) (hl : entryD P ro t m key S = some (d, S', e)) :
    ∃ u w', (Instr.mapEntry t vm vk).run P.prog w = .ok u w' ∧ VR M σ d u ∧ Step M σ S w M σ S' w' := by
  unfold entryD at hl
  split at hl
  · rename_i kt et b hu
    split at hl
    · rename_i hkd0
      obtain ⟨hkd, hro⟩ := hkd0
      split at hl
      · rename_i es clock hs
        cases hm with
        | mref hb =>
        rename_i β n
        obtain ⟨es', h1, h2, h3⟩ := h.mapAt hb hs
        split at hl
        · rename_i f hf
          split at hl
          · rename_i hsame
            simp only [effR, Option.some.injEq, Prod.mk.injEq] at hl
            obtain ⟨rfl, rfl, rfl⟩ := hl
            obtain ⟨r, r1, r2⟩ := findKey_sound hkd hk h2 hf
            cases r with
            | none => exact r2.elim
            | some r =>
              obtain ⟨j, v⟩ := r
              obtain ⟨q1, q2, q3, q4⟩ := r2
              rw [Nat.sub_zero] at q3
              obtain ⟨en, g1, g2, g3, g4⟩ := h2.get q3
              have g1' : es'[j]? = some en := by simpa using g1
              have hks := keySame_bits (P := P) g2 hk hsame
              have hmod : es'.modify j (fun e => { e with key := vk }) = (es'.toList.set j { en with key := vk }).toArray := modify_eq g1' _
              obtain ⟨s1, s2⟩ := turnMap (P := P) h hb hs h1 (clock2 := clock) (es2 := es.set f.at_ (key, f.val, f.born)) (es2' := es'.modify j (fun e => { e with key := vk }))
                (by rw [hmod]; simp only [q1]; exact h2.set (e := { en with key := vk }) (keyD_under hkd) hk g3 g4 j)
              refine ⟨.tuple #[v, .int .i64 f.born], _, ?_, .tup (.cons q4 (.cons (.int _ _) .nil)), s2⟩
              simp [Instr.mapEntry, run_underlyingD hu, MapKept.run_getObj_map h1, checkKey_ok hk hkd, r1, g1', hks, s1, goInt, g4]
          · cases hl
        · rename_i hf
          cases hz : zeroD P et with
          | none => simp [hz, effR] at hl
          | some z =>
          simp only [hz, Option.map_some, effR, Option.some.injEq, Prod.mk.injEq] at hl
          obtain ⟨rfl, rfl, rfl⟩ := hl
          obtain ⟨vz, hrz, hvz⟩ := run_zeroD M σ hz
          obtain ⟨r, r1, r2⟩ := findKey_sound hkd hk h2 hf
          cases r with
          | some r => exact r2.elim
          | none =>
            obtain ⟨s1, s2⟩ := turnMap (P := P) h hb hs h1 (clock2 := clock + 1) (es2 := es ++ [(key, z, clock)]) (es2' := es'.push { key := vk, val := vz, born := clock })
              (by simpa using h2.append (e := { key := vk, val := vz, born := clock }) (keyD_under hkd) hk hvz rfl)
            refine ⟨.tuple #[vz, .int .i64 clock], _, ?_, .tup (.cons hvz (.cons (.int _ _) .nil)), s2⟩
            simp [Instr.mapEntry, run_underlyingD hu, MapKept.run_getObj_map h1, checkKey_ok hk hkd, r1, hrz, s1, goInt]
        · cases hl
      · cases hl
    · cases hl
  · cases hl

theorem bornAt_sound {n : Int} : ∀ {es : List (DV × DV × Nat)} {es' : List MapEntry} {i j : Nat} {k : DV} {born : Nat}, Entries M σ es es' → bornAt n es i = some (j, k, born) →
    i ≤ j ∧ es'.findIdx? (fun e => (e.born : Int) == n) = some (j - i) ∧ ∃ v, es[j - i]? = some (k, v, born)
  | _, _, i, j, k, born, .nil, h => by simp [bornAt] at h
  | _, _, i, j, k, born, .cons (k := k0) (v := v0) (born := b0) (e := e) h0 h1 h2 h3 h4, h => by
    unfold bornAt at h
    split at h
    · rename_i hb
      simp only [Option.some.injEq, Prod.mk.injEq] at h
      obtain ⟨rfl, rfl, rfl⟩ := h
      refine ⟨Nat.le_refl _, ?_, v0, by simp⟩
      rw [Nat.sub_self, List.findIdx?_cons]
      rw [h3, if_pos hb]
    · rename_i hb
      obtain ⟨q1, q2, v, q3⟩ := bornAt_sound h4 h
      refine ⟨by omega, ?_, v, ?_⟩
      · rw [List.findIdx?_cons, h3, if_neg hb, q2]
        simp; omega
      · rw [show j - i = (j - (i + 1)) + 1 by omega]; simpa using q3

theorem entryStoreD_sound {ro lim : Nat} {t : TypeId} {m stamp val d : DV} {vm vst vv : Value} {S' : Store} {e : Eff} (h : Rel M σ S w) (hm : VR M σ m vm) (hst : VR M σ stamp vst) (hv : VR M σ val vv) (hl : entryStoreD ro lim m stamp val S = some (d, S', e)) :
    ∃ w', (Instr.entryStore t vm vst vv).run P.prog w = .ok () w' ∧ d = .tup [] ∧ Step M σ S w M σ S' w' := by
  unfold entryStoreD at hl
  split at hl
  · rename_i b ki n
    split at hl
    · rename_i hesc
      split at hl
      · rename_i es clock hs
        cases hm with
        | mref hb =>
        rename_i β nn
        cases hst
        obtain ⟨es', h1, h2, h3⟩ := h.mapAt hb hs
        split at hl
        · rename_i i k born hbn
          simp only [unitR, Option.some.injEq, Prod.mk.injEq] at hl
          obtain ⟨rfl, rfl, rfl⟩ := hl
          obtain ⟨q1, q2, v, q3⟩ := bornAt_sound h2 hbn
          rw [Nat.sub_zero] at q2 q3
          obtain ⟨en, g1, g2, g3, g4⟩ := h2.get q3
          have g1' : es'[i]? = some en := by simpa using g1
          have hku : k.under 0 = true := by
            have : ∀ {a b}, Entries M σ a b → ∀ {i : Nat} {k v : DV} {bo : Nat}, a[i]? = some (k, v, bo) → k.under 0 = true := by
              intro a b hab
              induction hab with
              | nil => intro i k v bo hh; simp at hh
              | cons h0 _ _ _ _ ih =>
                intro i k v bo hh
                cases i with
                | zero => simp at hh; obtain ⟨rfl, rfl, rfl⟩ := hh; exact h0
                | succ i => simp at hh; exact ih hh
            exact this h2 q3
          have hmod : es'.modify i (fun e => { e with val := vv }) = (es'.toList.set i { en with val := vv }).toArray := modify_eq g1' _
          obtain ⟨s1, s2⟩ := turnMap (P := P) h hb hs h1 (clock2 := clock) (es2 := es.set i (k, val, born)) (es2' := es'.modify i (fun e => { e with val := vv }))
            (by rw [hmod]; exact h2.set (e := { en with val := vv }) hku g2 hv g4 i)
          have hfi : es'.findIdx? (fun e => (e.born : Int) == n) = some i := by rw [← q2]; cases es'; simp
          refine ⟨_, ?_, rfl, s2⟩
          simp [Instr.entryStore, MapKept.run_getObj_map h1, asInt, asIntOf, hfi, s1]
        · cases hl
      · cases hl
    · cases hl
  · cases hl

theorem deleteD_sound {ro : Nat} {t : TypeId} {at_ : Array TypeId} {ty : TypeId} {m key d : DV} {vm vk : Value} {S' : Store} {e : Eff} (ht : at_[0]? = some t) (h : Rel M σ S w) (hm : VR M σ m vm) (hk : VR M σ key vk) (hl : deleteD P ro t m key S = some (d, S', e)) :
    ∃ u w', (Builtin.delete_ at_ ty #[vm, vk]).run P.prog w = .ok u w' ∧ VR M σ d u ∧ Step M σ S w M σ S' w' := by
  unfold deleteD at hl
  split at hl
  · rename_i kt et b hu
    split at hl
    · rename_i hkd0
      obtain ⟨hkd, hro⟩ := hkd0
      split at hl
      · rename_i es clock hs
        cases hm with
        | mref hb =>
        rename_i β n
        obtain ⟨es', h1, h2, h3⟩ := h.mapAt hb hs
        split at hl
        · rename_i f hf
          simp only [effR, Option.some.injEq, Prod.mk.injEq] at hl
          obtain ⟨rfl, rfl, rfl⟩ := hl
          obtain ⟨r, r1, r2⟩ := findKey_sound hkd hk h2 hf
          cases r with
          | none => exact r2.elim
          | some r =>
            obtain ⟨j, v⟩ := r
            obtain ⟨q1, q2, q3, q4⟩ := r2
            have her : (es'.eraseIdxIfInBounds j).toList = es'.toList.eraseIdx j := by simp
            obtain ⟨s1, s2⟩ := turnMap (P := P) h hb hs h1 (clock2 := clock) (es2 := es.eraseIdx f.at_) (es2' := es'.eraseIdxIfInBounds j) (by rw [her, q1]; exact h2.erase j)
            refine ⟨.tuple #[], _, ?_, .tup .nil, s2⟩
            simp [Builtin.delete_, ht, run_underlyingD hu, MapKept.run_getObj_map h1, checkKey_ok hk hkd, r1, s1]
        · rename_i hf
          simp only [effR, Option.some.injEq, Prod.mk.injEq] at hl
          obtain ⟨rfl, rfl, rfl⟩ := hl
          obtain ⟨r, r1, r2⟩ := findKey_sound hkd hk h2 hf
          cases r with
          | some r => exact r2.elim
          | none =>
            obtain ⟨s1, s2⟩ := turnMap (P := P) h hb hs h1 (clock2 := clock) (es2 := es) (es2' := es') h2
            have hset : S.set b (.map es clock) = S := by
              apply List.ext_getElem?
              intro i
              by_cases hi : b = i
              · subst hi; rw [List.getElem?_set_self (lt_of_lget hs), hs]
              · rw [List.getElem?_set_ne hi]
            rw [hset] at s2
            refine ⟨.tuple #[], _, ?_, .tup .nil, s2⟩
            simp [Builtin.delete_, ht, run_underlyingD hu, MapKept.run_getObj_map h1, checkKey_ok hk hkd, r1, s1]
        · cases hl
      · cases hl
    · cases hl
  · cases hl

theorem clearD_sound {ro : Nat} {t : TypeId} {at_ : Array TypeId} {ty : TypeId} {m d : DV} {vm : Value} {S' : Store} {e : Eff} (ht : at_[0]? = some t) (h : Rel M σ S w) (hm : VR M σ m vm) (hl : clearD P ro t m S = some (d, S', e)) :
    ∃ u w', (Builtin.clear_ at_ ty #[vm]).run P.prog w = .ok u w' ∧ VR M σ d u ∧ Step M σ S w M σ S' w' := by
  unfold clearD at hl
  split at hl
  · rename_i kt et b hu
    split at hl
    · split at hl
      · rename_i es clock hs
        simp only [effR, Option.some.injEq, Prod.mk.injEq] at hl
        obtain ⟨rfl, rfl, rfl⟩ := hl
        cases hm with
        | mref hb =>
        rename_i β n
        obtain ⟨es', h1, h2, h3⟩ := h.mapAt hb hs
        obtain ⟨s1, s2⟩ := turnMap (P := P) h hb hs h1 (clock2 := clock) (es2 := []) (es2' := #[]) .nil
        refine ⟨.tuple #[], _, ?_, .tup .nil, s2⟩
        simp [Builtin.clear_, ht, run_underlyingD hu, MapKept.run_getObj_map h1, s1]
      · cases hl
    · cases hl
  · cases hl
end
end Go.Dv
