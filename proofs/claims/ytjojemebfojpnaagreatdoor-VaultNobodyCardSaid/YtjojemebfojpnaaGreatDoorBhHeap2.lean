/- Operations that turn the store, more: conversions, len, append, copy. -/
import Derived.Test.YtjojemebfojpnaaGreatDoorBhHeap
import Derived.MapKept
set_option linter.unusedVariables false
set_option linter.unusedSimpArgs false
namespace Go.Dv
open Go

section
variable {P : Types} {M : Mem} {σ : Inj} {S : Store} {w : World}

theorem byteCells_ints {M : Mem} {σ : Inj} : ∀ {cs : List DV} {bs : List UInt8} {vs : List Value}, byteCells cs = some bs → VRs M σ cs vs →
    ∃ ns : List Int, vs = ns.map (Value.int .u8) ∧ bs = ns.map fun n => UInt8.ofNat n.toNat
  | [], bs, vs, h, hv => by cases hv; simp [byteCells] at h; exact ⟨[], rfl, by simp [h]⟩
  | d :: cs, bs, vs, h, hv => by
    unfold byteCells at h
    split at h
    · rename_i b bs' hb hbs
      injection h with h; subst h
      cases hv with
      | cons h1 h2 =>
      obtain ⟨ns, e1, e2⟩ := byteCells_ints hbs h2
      unfold byteCell at hb
      split at hb
      · rename_i n
        cases h1
        injection hb with hb
        exact ⟨n :: ns, by simp [e1], by simp [e2, hb]⟩
      · cases hb
    · cases h

theorem foldl_push (ns : List Int) (a : List UInt8) : ns.foldl (fun r n => r.push (UInt8.ofNat n.toNat)) (⟨a.toArray⟩ : ByteArray) = ⟨(a ++ ns.map fun n => UInt8.ofNat n.toNat).toArray⟩ := by
  induction ns generalizing a with
  | nil => simp
  | cons n ns ih =>
    simp only [List.foldl_cons]
    have : (⟨a.toArray⟩ : ByteArray).push (UInt8.ofNat n.toNat) = ⟨(a ++ [UInt8.ofNat n.toNat]).toArray⟩ := by
      apply ByteArray.ext; simp [ByteArray.push]
    rw [this, ih]; simp

theorem ofBytes_vrs (s : List UInt8) : VRs M σ (ofBytes s) (s.map fun b => .int .u8 b.toNat) := by
  induction s with
  | nil => exact .nil
  | cons b s ih => exact .cons (.int _ _) ih

theorem flatten_length {rows : List (List DV)} {size : Nat} (h : (rows.all fun r => decide (r.length = size)) = true) : rows.flatten.length = rows.length * size := by
  induction rows with
  | nil => simp
  | cons r rows ih =>
    simp only [List.all_cons, Bool.and_eq_true, decide_eq_true_eq] at h
    simp only [List.flatten_cons, List.length_append, List.length_cons, ih h.2, h.1, Nat.add_mul]; omega

/-- The first elements of a slice, or of a text. -/
theorem elemsOf_sound {size n : Nat} {x : DV} {xs : List DV} {v : Value} (h : Rel M σ S w) (hx : VR M σ x v) (he : elemsOf size S x = some (n, xs)) :
    (∀ w, (Builtin.lenOf v).run P.prog w = .ok n w) ∧ xs.length = n * size ∧
    ∀ m, m ≤ n → ∃ vs : List Value, VRs M σ (xs.take (m * size)) vs ∧ ∀ w' : World, w'.heap = w.heap → (Builtin.firstCells size m v).run P.prog w' = .ok vs.toArray w' := by
  have cellsRun : ∀ {β o : Nat} {ds : List DV}, Cells M σ w β o ds → ds.length = n * size → ∀ m, m ≤ n → ∃ vs : List Value, VRs M σ (ds.take (m * size)) vs ∧ ∀ w' : World, w'.heap = w.heap → (loadCells ⟨β, o, none⟩ (m * size)).run P.prog w' = .ok vs.toArray w' := by
    intro β o ds hc hl m hm
    obtain ⟨vs, hvs, hget⟩ := (hc.take (m * size)).values
    refine ⟨vs, hvs, fun w' hw' => ?_⟩
    have hlen : vs.length = m * size := by
      have := hvs.length
      have hle : m * size ≤ n * size := Nat.mul_le_mul_right _ hm
      rw [List.length_take] at this; omega
    rw [← hlen]
    exact run_loadCells_list w' _ _ fun j u hj => by rw [addr_add]; exact (cell?_congr (by rw [hw'])).trans (hget j u hj)
  unfold elemsOf at he
  split at he
  · cases hx
    simp only [Option.some.injEq, Prod.mk.injEq] at he
    obtain ⟨rfl, rfl⟩ := he
    exact ⟨fun w => rfl, by simp, fun m hm => ⟨[], by simp; exact .nil, fun w' _ => rfl⟩⟩
  · rename_i s
    split at he
    · rename_i hs1
      subst hs1
      cases hx
      simp only [Option.some.injEq, Prod.mk.injEq] at he
      obtain ⟨rfl, rfl⟩ := he
      refine ⟨fun w => by simp [Builtin.lenOf, ByteArray.size], by simp [ofBytes], fun m hm => ⟨(s.take m).map fun b => .int .u8 b.toNat, ?_, fun w' _ => ?_⟩⟩
      · have := ofBytes_vrs (M := M) (σ := σ) (s.take m)
        simpa [ofBytes, List.map_take] using this
      · simp [Builtin.firstCells, extract_str]
    · cases he
  · rename_i rows ex
    split at he
    · rename_i hall
      simp only [Option.some.injEq, Prod.mk.injEq] at he
      obtain ⟨rfl, rfl⟩ := he
      have hfl := flatten_length hall
      cases hx with
      | sl hrows g1 g2 =>
      rename_i β o sz c
      refine ⟨fun w => rfl, hfl, fun m hm => ?_⟩
      obtain ⟨vs, h1, h2⟩ := cellsRun (h.look hrows.flatten) hfl m hm
      exact ⟨vs, h1, fun w' hw' => by simpa [Builtin.firstCells] using h2 w' hw'⟩
    · cases he
  · rename_i b off sz len cap
    split at he
    · rename_i hsz
      subst hsz
      split at he
      · rename_i cs k hs
        cases hp : piece cs off (len * sz) with
        | none => simp [hp] at he
        | some ys =>
          simp only [hp, Option.map_some, Option.some.injEq, Prod.mk.injEq] at he
          obtain ⟨rfl, rfl⟩ := he
          obtain ⟨rfl, hl, hle⟩ := piece_some hp
          cases hx with
          | msl hb g1 g2 g3 =>
          rename_i β n c
          refine ⟨fun w => rfl, hl, fun m hm => ?_⟩
          obtain ⟨vs, h1, h2⟩ := cellsRun (((h.cellsAt hb hs).shift off).take (len * sz)) hl m hm
          rw [Nat.zero_add] at h2
          exact ⟨vs, h1, fun w' hw' => by simpa [Builtin.firstCells] using h2 w' hw'⟩
      · cases he
    · cases he
  · cases he

def drewW (w : World) : World := { w with drawn := w.drawn + 1 }

theorem run_chooseD {q : Question} (hq : q.forced = false) (w : World) : (choose q).run P.prog w = .ok (q.cut (w.tape w.drawn q)) (drewW w) := by
  simp [hq, drewW]

/-- What a conversion comes to. -/
theorem convD_sound {src dst : TypeId} {x d : DV} {v : Value} {S' : Store} {e : Eff} (h : Rel M σ S w) (hx : VR M σ x v) (hc : convD P src dst x S = some (d, S', e)) :
    ∃ u σ' w', (convert src dst v).run P.prog w = .ok u w' ∧ VR M σ' d u ∧ Step M σ S w M σ' S' w' := by
  unfold convD at hc
  split at hc
  · rename_i sd k ki n hu1 hu2
    cases hx
    simp only [Option.some.injEq, Prod.mk.injEq] at hc
    obtain ⟨rfl, rfl, rfl⟩ := hc
    refine ⟨_, σ, w, ?_, .int _ _, Step.refl h⟩
    simp only [convert, Sem.run_bind, run_underlyingD hu1, run_underlyingD hu2, Result.andThen_ok]
    rfl
  · rename_i sd s hu1 hu2
    cases hx
    simp only [Option.some.injEq, Prod.mk.injEq] at hc
    obtain ⟨rfl, rfl, rfl⟩ := hc
    refine ⟨_, σ, w, ?_, .str _, Step.refl h⟩
    simp only [convert, Sem.run_bind, run_underlyingD hu1, run_underlyingD hu2, Result.andThen_ok]
    cases sd <;> rfl
  · rename_i sd el s hu1 hu2
    cases hx
    split at hc
    · rename_i hue
      split at hc
      · rename_i hl
        simp only [Option.some.injEq, Prod.mk.injEq] at hc
        obtain ⟨rfl, rfl, rfl⟩ := hc
        have hsz : (⟨s.toArray⟩ : ByteArray).size = s.length := by simp [ByteArray.size]
        let q : Question := .appendCap s.length 0 el
        let cap := q.cut (w.tape w.drawn q)
        have hcap : s.length ≤ cap := Nat.le_add_right _ _
        let c : Array Value := (s.map fun b => Value.int .u8 b.toNat).toArray ++ Array.replicate (cap - s.length) (.int .u8 0)
        have hcs : c.size = cap := by simp [c]; omega
        have hst0 := Step.congr (w' := drewW w) h rfl rfl rfl rfl
        have hst := hst0.rel.newRow (cs := ofBytes s) (c := c) (k := .grown el) el (c.size, c.size + 1) (by simp [ofBytes, c]) (fun _ e => by cases e) (by simp) (fun _ e => by simpa using e) (fun j d hj => by
          obtain ⟨u, hu, hr⟩ := (ofBytes_vrs (M := M) (σ := σ) s).get hj
          refine ⟨u, ?_, hr⟩
          have hlt := lt_of_lget hu
          simp only [c, Array.getElem?_append]
          rw [if_pos (by simpa using hlt)]
          simpa using hu) (fun o ho => by simp [Kind.open]; omega)
        refine ⟨.slice (some ⟨w.heap.size, 0, none⟩) s.length cap, _, _, ?_, .msl (Inj.add_same _ _ _) hcap (fun k hk => by cases hk) (fun _ => by simp [hcs]), hst0.trans hst⟩
        simp only [convert, Sem.run_bind, run_underlyingD hu1, run_underlyingD hu2, Result.andThen_ok]
        have hconv : (Conv.stringToBytes el ⟨s.toArray⟩).run P.prog w = .ok (.slice (some ⟨w.heap.size, 0, none⟩) s.length cap) (pushW (drewW w) (.cells c el (c.size, c.size + 1))) := by
          unfold Conv.stringToBytes
          simp only [Sem.run_bind, run_chooseD (P := P) (q := .appendCap s.length 0 el) rfl w, hsz, Result.andThen_ok]
          have hmap : (⟨s.toArray⟩ : ByteArray).data.map (fun b => Value.int .u8 b.toNat) = (s.map fun b => Value.int .u8 b.toNat).toArray := by simp
          simp only [hmap, Go.newRow, Sem.run_bind, run_newObj, Result.andThen_ok, Sem.run_pure, markStringish, run_shape]
          have hw : (World.shape? { drewW w with heap := (drewW w).heap.push (Obj.cells c el) } (drewW w).heap.size) = some (el, c.size) := by
            simp [World.shape?]
          have hc' : ((s.map fun b => Value.int .u8 b.toNat).toArray ++ Array.replicate ((q.cut (w.tape w.drawn q)) - s.length) (.int .u8 0)) = c := rfl
          simp only [q] at hc'
          rw [hc', hw]
          simp only [run_freeze, Result.andThen_ok, Sem.run_pure]
          congr 1
          unfold World.freeze pushW
          simp only [Nat.one_ne_zero, if_false]
          congr 1
          apply Array.ext_getElem?
          intro j
          rw [Array.getElem?_modify, Array.getElem?_push, Array.getElem?_push]
          by_cases hj : j = (drewW w).heap.size
          · subst hj; simp
          · simp [hj, Ne.symm hj]
        cases sd <;> first
          | (simp only [Sem.run_bind, run_underlyingD hue, Result.andThen_ok]; exact hconv)
      · cases hc
    · cases hc
  · rename_i el hu1 hu2 hns
    split at hc
    · rename_i hue
      have key : ∀ {v : Value} {r : Result Value}, (Conv.bytesToString v).run P.prog w = r → (∀ k n, v ≠ .int k n) → (∀ s, v ≠ .string s) → (∀ k b, v ≠ .float k b) → (∀ k a b, v ≠ .complex k a b) → (convert src dst v).run P.prog w = r := by
        intro v r hr n1 n2 n3 n4
        simp only [convert, Sem.run_bind, run_underlyingD hu1, run_underlyingD hu2, Result.andThen_ok]
        cases v <;> first
          | exact absurd rfl (n1 _ _)
          | exact absurd rfl (n2 _)
          | exact absurd rfl (n3 _ _)
          | exact absurd rfl (n4 _ _ _)
          | (simp only [Sem.run_bind, run_underlyingD hue, Result.andThen_ok]; exact hr)
      split at hc
      · cases hx
        simp only [Option.some.injEq, Prod.mk.injEq] at hc
        obtain ⟨rfl, rfl, rfl⟩ := hc
        exact ⟨.string ⟨#[]⟩, σ, w, key rfl (by simp) (by simp) (by simp) (by simp), .str [], Step.refl h⟩
      · rename_i rows ex
        split at hc
        · rename_i hall
          cases hb : byteCells rows.flatten with
          | none => simp [hb, pureR] at hc
          | some bs =>
            simp only [hb, Option.map_some, pureR, Option.some.injEq, Prod.mk.injEq] at hc
            obtain ⟨rfl, rfl, rfl⟩ := hc
            have hel : elemsOf 1 S (.sl rows ex) = some (rows.length, rows.flatten) := by simp only [elemsOf, hall, if_true]
            obtain ⟨h1, h2, h3⟩ := elemsOf_sound (P := P) h hx hel
            obtain ⟨vs, hvs, hrun⟩ := h3 rows.length (Nat.le_refl _)
            rw [Nat.mul_one] at h2 hvs
            rw [List.take_of_length_le (by omega)] at hvs
            obtain ⟨ns, rfl, rfl⟩ := byteCells_ints hb hvs
            cases hx with
            | sl hrows g1 g2 =>
            have hl := hrun w rfl
            simp only [Builtin.firstCells, Nat.mul_one] at hl
            refine ⟨.string ⟨(ns.map fun n => UInt8.ofNat n.toNat).toArray⟩, σ, w, key ?_ (by simp) (by simp) (by simp) (by simp), .str _, Step.refl h⟩
            rw [run_bytesToString w _ _ _ ns hl]
            have := foldl_push ns []
            simp only [List.nil_append] at this
            congr 2
        · cases hc
      · rename_i b off sz len cap
        cases hel : elemsOf 1 S (.msl b off sz len cap) with
        | none => simp [hel] at hc
        | some p =>
          obtain ⟨n, xs⟩ := p
          simp only [hel] at hc
          cases hb : byteCells xs with
          | none => simp [hb, readR] at hc
          | some bs =>
            simp only [hb, Option.map_some, readR, Option.some.injEq, Prod.mk.injEq] at hc
            obtain ⟨rfl, rfl, rfl⟩ := hc
            obtain ⟨h1, h2, h3⟩ := elemsOf_sound (P := P) h hx hel
            obtain ⟨vs, hvs, hrun⟩ := h3 n (Nat.le_refl _)
            rw [Nat.mul_one] at h2 hvs
            rw [List.take_of_length_le (by omega)] at hvs
            obtain ⟨ns, rfl, rfl⟩ := byteCells_ints hb hvs
            cases hx with
            | msl hb0 g1 g2 g3 =>
            have hn : len = n := by
              have := h1 w
              simp [Builtin.lenOf] at this
              exact this
            subst hn
            have hl := hrun w rfl
            simp only [Builtin.firstCells, Nat.mul_one] at hl
            refine ⟨.string ⟨(ns.map fun n => UInt8.ofNat n.toNat).toArray⟩, σ, w, key ?_ (by simp) (by simp) (by simp) (by simp), .str _, Step.refl h⟩
            rw [run_bytesToString w _ _ _ ns hl]
            have := foldl_push ns []
            simp only [List.nil_append] at this
            congr 2
      · cases hc
    · cases hc
  · cases hc

theorem lenD_sound {t : TypeId} {at_ : Array TypeId} {ty : TypeId} {x d : DV} {v : Value} {S' : Store} {e : Eff} (ht : at_[0]? = some t) (h : Rel M σ S w) (hx : VR M σ x v) (hc : lenD P t x S = some (d, S', e)) :
    ∃ u, (Builtin.len_ at_ ty #[v]).run P.prog w = .ok u w ∧ VR M σ d u ∧ S' = S := by
  unfold lenD at hc
  split at hc
  case h_1 s hu =>
    cases hx
    simp only [Option.some.injEq, Prod.mk.injEq] at hc
    obtain ⟨rfl, rfl, rfl⟩ := hc
    have hsz : (⟨s.toArray⟩ : ByteArray).size = s.length := by simp [ByteArray.size]
    exact ⟨.int .i64 s.length, by simp only [Builtin.len_, ht]; simp [run_underlyingD hu, goInt, hsz], .int _ _, rfl⟩
  case h_2 => cases hc
  case h_3 n el hu _ =>
    simp only [Option.some.injEq, Prod.mk.injEq] at hc
    obtain ⟨rfl, rfl, rfl⟩ := hc
    exact ⟨.int .i64 n, by simp [Builtin.len_, ht, run_underlyingD hu, goInt], .int _ _, rfl⟩
  case h_4 el hu =>
    cases hx
    simp only [Option.some.injEq, Prod.mk.injEq] at hc
    obtain ⟨rfl, rfl, rfl⟩ := hc
    exact ⟨.int .i64 0, by simp [Builtin.len_, ht, run_underlyingD hu, goInt], .int _ _, rfl⟩
  case h_5 el rows ex hu =>
    cases hx
    simp only [Option.some.injEq, Prod.mk.injEq] at hc
    obtain ⟨rfl, rfl, rfl⟩ := hc
    exact ⟨.int .i64 rows.length, by simp [Builtin.len_, ht, run_underlyingD hu, goInt], .int _ _, rfl⟩
  case h_6 el b off sz len cap hu =>
    cases hx
    simp only [Option.some.injEq, Prod.mk.injEq] at hc
    obtain ⟨rfl, rfl, rfl⟩ := hc
    exact ⟨.int .i64 len, by simp [Builtin.len_, ht, run_underlyingD hu, goInt], .int _ _, rfl⟩
  case h_7 k el hu =>
    cases hx
    simp only [Option.some.injEq, Prod.mk.injEq] at hc
    obtain ⟨rfl, rfl, rfl⟩ := hc
    exact ⟨.int .i64 0, by simp [Builtin.len_, ht, run_underlyingD hu, goInt], .int _ _, rfl⟩
  case h_8 k el b hu =>
    cases hx with
    | mref hb =>
    split at hc
    · rename_i es clock hs
      simp only [Option.some.injEq, Prod.mk.injEq] at hc
      obtain ⟨rfl, rfl, rfl⟩ := hc
      obtain ⟨β, n, es', h1, h2, h3, h4⟩ := h.box _ _ hs
      rw [hb] at h1; injection h1 with h1; injection h1 with h1 h1'; subst h1
      have hl : ∀ {a b}, Entries M σ a b → a.length = b.length := fun {a b} h => by
        induction h with
        | nil => rfl
        | cons _ _ _ _ _ ih => simp [ih]
      have := hl h3
      exact ⟨.int .i64 es.length, by simp [Builtin.len_, ht, run_underlyingD hu, goInt, MapKept.run_getObj_map h2, this], .int _ _, rfl⟩
    · cases hc
  case h_9 => cases hc
end
end Go.Dv
