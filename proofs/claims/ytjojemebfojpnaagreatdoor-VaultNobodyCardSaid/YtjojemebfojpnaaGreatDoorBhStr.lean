/- Bytes told as a string in place: 'unsafe.String(unsafe.SliceData(b), len(b))'. -/
import Derived.Test.YtjojemebfojpnaaGreatDoorBhMaps
import Derived.Lib.UnsafeStr
set_option linter.unusedVariables false
set_option linter.unusedSimpArgs false
namespace Go.Dv
open Go

section
variable {P : Types} {M : Mem} {σ : Inj} {S : Store} {w : World}

theorem dataD_sound {ts : Array TypeId} {ty : TypeId} {x d : DV} {v : Value} {S' : Store} {e : Eff} (h : Rel M σ S w) (hx : VR M σ x v) (hd : dataD x S = some (d, S', e)) :
    ∃ u, (Builtin.unsafeSliceData_ ts ty #[v]).run P.prog w = .ok u w ∧ VR M σ d u ∧ S' = S := by
  unfold dataD at hd
  split at hd
  · simp only [Option.some.injEq, Prod.mk.injEq] at hd; obtain ⟨rfl, rfl, rfl⟩ := hd
    cases hx
    exact ⟨.pointer none, Lib.run_unsafeSliceData_nil w ts ty 0 0, .nilp, rfl⟩
  · split at hd
    · cases hd
    · rename_i hl
      simp only [Option.some.injEq, Prod.mk.injEq] at hd; obtain ⟨rfl, rfl, rfl⟩ := hd
      cases hx with
      | msl hb h1 h2 h3 => exact ⟨_, Lib.run_unsafeSliceData_row w ts ty _ _ _ (by omega), .ref hb, rfl⟩
  · cases hd

theorem capD_sound {t : TypeId} {at_ : Array TypeId} {ty : TypeId} {x d : DV} {v : Value} (ht : at_[0]? = some t) (hx : VR M σ x v) (hc : capD P t x = some d) :
    ∃ u, (∀ w, (Builtin.cap_ at_ ty #[v]).run P.prog w = .ok u w) ∧ VR M σ d u := by
  unfold capD at hc
  split at hc
  · rename_i el hu
    cases hx
    injection hc with hc; subst hc
    exact ⟨.int .i64 0, fun w => by simp [Builtin.cap_, ht, run_underlyingD hu, goInt], .int _ _⟩
  · rename_i el rows hu
    cases hx with
    | sl h1 h2 h3 =>
    injection hc with hc; subst hc
    rw [h3 rfl]
    exact ⟨.int .i64 rows.length, fun w => by simp [Builtin.cap_, ht, run_underlyingD hu, goInt], .int _ _⟩
  · rename_i el b off sz len c hu
    cases hx with
    | msl h1 h2 h3 h4 =>
    injection hc with hc; subst hc
    rw [h3 _ rfl]
    exact ⟨.int .i64 c, fun w => by simp [Builtin.cap_, ht, run_underlyingD hu, goInt], .int _ _⟩
  · cases hc

theorem run_loadBytesD : ∀ (ns : List Int) (β o : Nat) (acc : ByteArray), (∀ j n, ns[j]? = some n → w.cell? ⟨β, o + j, none⟩ = some (.int .u8 n)) →
    (loadBytes ⟨β, o, none⟩ acc ns.length).run P.prog w = .ok ⟨acc.data ++ (ns.map fun n => UInt8.ofNat n.toNat).toArray⟩ w
  | [], β, o, acc, _ => by simp [loadBytes]
  | n :: ns, β, o, acc, h => by
    have h0 : w.cell? ⟨β, o, none⟩ = some (.int .u8 n) := by simpa using h 0 n rfl
    have ih := run_loadBytesD ns β (o + 1) (acc.push (UInt8.ofNat n.toNat)) (fun j y hy => by
      have := h (j + 1) y (by simpa using hy)
      rw [show o + 1 + j = o + (j + 1) by omega]; exact this)
    have ha : (⟨β, o, none⟩ : Addr).add 1 = ⟨β, o + 1, none⟩ := addr_add _ _ _
    simp only [List.length_cons, loadBytes, Sem.run_bind, run_load, h0, Result.andThen, ha]
    have hx : n.toNat.toUInt8 = UInt8.ofNat n.toNat := rfl
    rw [hx, ih]
    congr 1
    apply ByteArray.ext
    simp [ByteArray.push]

theorem freeze_eq {β n : Nat} {c : Array Value} {el : TypeId} {lo hi : Nat} (hn : n ≠ 0) (h : w.heap[β]? = some (.cells c el (lo, hi))) :
    w.freeze ⟨β, 0, none⟩ n = setW w β (.cells c el (if lo == hi then (0, 0 + n) else (min lo 0, max hi (0 + n)))) := by
  unfold World.freeze setW
  rw [if_neg hn]
  congr 1
  apply Array.ext_getElem?
  intro j
  rw [Array.getElem?_modify, Array.getElem?_setIfInBounds]
  have hlt := lt_of_get h
  by_cases e : β = j
  · subst e
    have h2 : w.heap[β] = .cells c el (lo, hi) := by
      have := Array.getElem?_eq_getElem hlt
      rw [h] at this; injection this with this; exact this.symm
    simp [h, hlt, h2]
  · simp [e]

theorem unstrD_sound {at_ : Array TypeId} {ty : TypeId} {p n d : DV} {vp vn : Value} {S' : Store} {e : Eff} (h : Rel M σ S w) (hp : VR M σ p vp) (hn : VR M σ n vn)
    (hd : unstrD P at_.toList p n S = some (d, S', e)) : ∃ u w', (Builtin.unsafeString_ at_ ty #[vp, vn]).run P.prog w = .ok u w' ∧ VR M σ d u ∧ Step M σ S w M σ S' w' := by
  have hat : ∀ {a b : TypeId}, at_.toList = [a, b] → at_ = #[a, b] := fun {a b} hh => by
    apply Array.toList_inj.1; simpa using hh
  have hemp : (ByteArray.empty) = ⟨([] : List UInt8).toArray⟩ := rfl
  unfold unstrD at hd
  split at hd
  · rename_i a b n hl
    split at hd
    · rename_i h0
      simp only [Option.some.injEq, Prod.mk.injEq] at hd; obtain ⟨rfl, rfl, rfl⟩ := hd
      cases hp; cases hn; subst h0
      rw [hat hl]
      exact ⟨_, w, Lib.run_unsafeString_none w _ _ ty none, by rw [hemp]; exact .str [], Step.refl h⟩
    · cases hd
  · rename_i pt it b off n hl
    cases hn
    split at hd
    · rename_i h0
      simp only [Option.some.injEq, Prod.mk.injEq] at hd; obtain ⟨rfl, rfl, rfl⟩ := hd
      subst h0
      cases hp with
      | ref hb =>
        rw [hat hl]
        exact ⟨_, w, Lib.run_unsafeString_none w _ _ ty (some _), by rw [hemp]; exact .str [], Step.refl h⟩
    · rename_i h0
      split at hd
      · rename_i el cs t hpt hS
        split at hd
        · rename_i hc
          obtain ⟨c1, c2, c3, rfl, rfl, c5⟩ := hc
          obtain ⟨hd2, rfl, rfl⟩ : (byteCells (cs.take n.toNat)).map DV.str = some d ∧ S' = S ∧ e = .read b := by
            cases hq : (byteCells (cs.take n.toNat)).map DV.str with
            | none => simp [hq, readR] at hd
            | some q =>
              simp only [hq, readR, Option.some.injEq, Prod.mk.injEq] at hd
              obtain ⟨rfl, rfl, rfl⟩ := hd; exact ⟨rfl, rfl, rfl⟩
          clear hd
          rw [Option.map_eq_some_iff] at hd2
          obtain ⟨l, hl2, rfl⟩ := hd2
          cases hp with
          | @ref _ _ β m _ hb =>
          have hcs := (h.cellsAt hb hS).take n.toNat
          obtain ⟨vs, hvs, hget⟩ := hcs.values
          obtain ⟨ns, rfl, rfl⟩ := byteCells_ints hl2 hvs
          have hvl := hvs.length
          have hnl : ns.length = n.toNat := by
            simp only [List.length_take, List.length_map] at hvl; omega
          obtain ⟨β', c, el', fz, h1, h2, h3, h4, h5, h6, h7, h8⟩ := h.box b _ hS
          rw [hb] at h1; injection h1 with h1; injection h1 with h1 h1'; subst h1
          have hel : el' = t := h8 t (.inr (.inr rfl))
          subst hel
          have hsh : w.shape? β = some (el', c.size) := by simp [World.shape?, h2]
          obtain ⟨i, hi, hisz⟩ := sizeD_info c5
          have hcell : P.prog.cellsOf el' = 1 := by simp [Program.cellsOf, P.ok _ _ hi, hisz]
          have hlies := Lib.liesAt_bytes (P := P.prog) hcell (c.size / P.prog.cellsOf el') n.toNat (by rw [hcell]; simp; omega)
          have hlb := run_loadBytesD (P := P) (w := w) ns β 0 .empty (fun j x hx => by
            have := hget j (.int .u8 x) (by simp [hx])
            exact this)
          rw [hnl] at hlb
          have hmax : IntKind.i64.max = 9223372036854775807 := by decide
          have hneg : ¬ n < 0 := by omega
          have h63 : ¬ (9223372036854775807 : Int) < n := by omega
          have hdef : Builtin.unsafeString_ #[pt, it] ty #[.pointer (some ⟨β, 0, none⟩), .int .i64 n] =
              (do
                let n ← asInt (.int .i64 n)
                if n < 0 then runtimePanic (.error "unsafe.String: len out of range")
                if n > IntKind.i64.max then unsupported (.unsafePointer "String: a length above the largest int")
                if n = 0 then pure (.string .empty)
                else if ← variablesAt ⟨β, 0, none⟩ (← elemOf pt) n.toNat then do
                  let s ← loadBytes ⟨β, 0, none⟩ .empty n.toNat
                  freeze ⟨β, 0, none⟩ n.toNat
                  pure (.string s)
                else unsupported (.unsafePointer "String: not so many bytes at ptr")) := rfl
          have hrun : (Builtin.unsafeString_ #[pt, it] ty #[.pointer (some ⟨β, 0, none⟩), .int .i64 n]).run P.prog w = .ok (.string ⟨(ns.map fun n => UInt8.ofNat n.toNat).toArray⟩) (w.freeze ⟨β, 0, none⟩ n.toNat) := by
            rw [hdef]
            simp [asInt, asIntOf, hmax, h63, hneg, h0, variablesAt, hsh, elemOf, run_underlying (Types.und hpt), hlies, hlb]
          rw [hat hl]
          obtain ⟨lo, hi2⟩ := fz
          have hfz := freeze_eq (w := w) (n := n.toNat) (by omega) h2
          have ho : Owns S' b := .inl ⟨_, _, hS, by simp⟩
          rw [hfz] at hrun
          have hbox : BoxAt M σ (setW w β (.cells c el' (if lo == hi2 then (0, 0 + n.toNat) else (min lo 0, max hi2 (0 + n.toNat))))) b (.cells cs (.text el')) := by
            refine ⟨β, c, el', _, hb.trans (by rw [h1']), setW_same (lt_of_get h2), h3, h4, h5, fun hk => ⟨(h6 hk).1, fun o ho ho2 => ?_⟩, fun e => by simp at e, h8⟩
            have q1 := (h6 hk).2 o ho ho2
            have q2 := ho2 rfl
            have q3 : ¬ o < hi2 := fun e => q1 ⟨fun e => absurd e (by simp [Kind.open]), e⟩
            split
            · simp only; rintro ⟨_, e⟩; omega
            · simp only; rintro ⟨_, e⟩; omega
          obtain ⟨hrel, hkeep⟩ := h.turn ho hb _ _ hbox
          have hS2 : S'.set b (.cells cs (.text el')) = S' := by
            apply List.ext_getElem?
            intro j
            rw [List.getElem?_set]
            split
            · rename_i e; subst e
              rw [if_pos (lt_of_lget hS), hS]
            · rfl
          rw [hS2] at hrel
          exact ⟨_, _, hrun, .str _, Mem.le_refl M, fun _ _ _ h => .inl h, Inj.le_refl σ, hrel, hkeep, fun c' γ m hoc hc hγ => ⟨c', m, hoc, hc⟩⟩
        · cases hd
      · cases hd
  · cases hd
end
end Go.Dv
