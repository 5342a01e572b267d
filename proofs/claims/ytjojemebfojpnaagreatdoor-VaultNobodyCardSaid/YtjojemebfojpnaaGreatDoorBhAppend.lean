/- append and copy. -/
import Derived.Test.YtjojemebfojpnaaGreatDoorBhHeap2
set_option linter.unusedVariables false
set_option linter.unusedSimpArgs false
namespace Go.Dv
open Go

section
variable {P : Types} {M : Mem} {σ : Inj} {S : Store} {w : World}

theorem growBy_le (n : Nat) : ∀ (r c : Nat), Builtin.growBy n r c ≤ max c (n + (n + 768) / 4)
  | 0, c => by simp [Builtin.growBy]; omega
  | r + 1, c => by
    unfold Builtin.growBy
    split
    · omega
    · have := growBy_le n r (c + (c + 768) / 4)
      omega

theorem nextcap_le {need old : Nat} (h : old < need) : Builtin.nextslicecap need old ≤ 2 * need + 192 := by
  unfold Builtin.nextslicecap
  split
  · omega
  · split
    · omega
    · have := growBy_le need 4 old
      omega

theorem rowKind_or (P : Types) (elem : TypeId) : rowKind P elem = .grown elem ∨ rowKind P elem = .text elem := by
  unfold rowKind; split <;> simp

/-- An append that does not fit. -/
theorem append_grow {at_ : Array TypeId} {ty st xt elem : TypeId} {u : TypeDesc} {size bytes n m c : Nat} {base : Option Addr} {z : DV} {zc old news : List DV} {x : DV} {vx : Value}
    (h : Rel M σ S w) (h0 : at_[0]? = some st) (h1 : at_[1]? = some xt) (hst : P.underlying st = some (.slice elem)) (hxt : P.underlying xt = some u) (hni : ∀ k, u ≠ .int k)
    (hs : sizeD P elem = some size) (hby : bytesD P elem = some bytes) (hz : zeroD P elem = some z) (hzc : z.cells = some zc) (hzl : zc.length = size) (hpos : 0 < size)
    (hx : VR M σ x vx) (hnews : elemsOf size S x = some (n, news)) (hcap : capOk (m + n) bytes = true)
    (hold : ∃ vs : List Value, VRs M σ old vs ∧ ∀ w' : World, w'.heap = w.heap → (Builtin.firstCells size m (.slice base m c)).run P.prog w' = .ok vs.toArray w') (hol : old.length = m * size)
    (hmc : m ≤ c) (hfit : c < m + n) {k0 : Kind} (hk0 : k0 = .grown elem ∨ k0 = .text elem) :
    ∃ cap' w', (Builtin.append_ at_ ty #[.slice base m c, vx]).run P.prog w = .ok (.slice (some ⟨w.heap.size, 0, none⟩) (m + n) cap') w' ∧
      (∃ q, VR M (σ.add S.length q) (.msl S.length 0 size (m + n) none) (.slice (some ⟨w.heap.size, 0, none⟩) (m + n) cap') ∧
        Step M σ S w M (σ.add S.length q) (S ++ [.cells (old ++ news) k0]) w' ∧ q.1 = w.heap.size) := by
  obtain ⟨e1, e2, e3⟩ := elemsOf_sound (P := P) h hx hnews
  obtain ⟨vn, hvn, hrn⟩ := e3 n (Nat.le_refl _)
  rw [List.take_of_length_le (by omega)] at hvn
  obtain ⟨vo, hvo, hro⟩ := hold
  obtain ⟨v0, hr0, hv0⟩ := run_zeroD M σ hz
  have hzv := hv0.cells hzc
  have hzvl : v0.cells.size = size := by have := hzv.length; simp at this; omega
  obtain ⟨i, hi, hib⟩ := run_bytesD hby
  let q : Question := .appendCap (m + n) c elem
  let cap' := q.cut (w.tape w.drawn q)
  have hcap' : m + n ≤ cap' := Nat.le_add_right _ _
  let arr : Array Value := vo.toArray ++ vn.toArray ++ Builtin.zeroCells v0.cells (cap' - (m + n))
  have hvol := hvo.length
  have hvnl := hvn.length
  have hzs : (Builtin.zeroCells v0.cells (cap' - (m + n))).size = (cap' - (m + n)) * size := by simp [Builtin.zeroCells, hzvl]
  have harr : arr.size = cap' * size := by
    simp only [arr, Array.size_append, List.size_toArray, hzs]
    rw [← hvol, ← hvnl, hol, e2, ← Nat.add_mul, ← Nat.add_mul]
    congr 1; omega
  have hst0 := Step.congr (w' := drewW w) h rfl rfl rfl rfl
  have hall := VRs.append hvn hvo
  have hstep := hst0.rel.newRow (cs := old ++ news) (c := arr) (k := k0) elem (0, 0) (by
      rw [harr]; simp [hol, e2, ← Nat.add_mul]; exact Nat.mul_le_mul_right _ hcap') (fun _ e => by rcases hk0 with h | h <;> rw [h] at e <;> cases e) (by rcases hk0 with rfl | rfl <;> simp) (fun _ e => by rcases hk0 with rfl | rfl <;> simpa using e) (fun j d hj => by
    obtain ⟨y, hy, hr⟩ := hall.get hj
    refine ⟨y, ?_, hr⟩
    have hlt := lt_of_lget hy
    simp only [arr]
    rw [Array.getElem?_append, if_pos (by simpa using hlt)]
    simpa using hy) (fun o ho => by simp)
  refine ⟨cap', pushW (drewW w) (.cells arr elem (0, 0)), ?_, ((drewW w).heap.size, arr.size), .msl (Inj.add_same _ _ _) hcap' (fun k hk => by cases hk) (fun _ => by simp [harr]), hst0.trans hstep, rfl⟩
  have hcapb : m + n ≤ 4294967296 ∧ bytes ≤ 4096 := by simpa [capOk] using hcap
  have hnc := nextcap_le (need := m + n) (old := c) hfit
  have hmem : ¬ (Builtin.nextslicecap (m + n) c * i.bytes > 2 ^ 48) := by
    have e : (2 : Nat) ^ 48 = 281474976710656 := by decide
    rw [e, hib]
    have : Builtin.nextslicecap (m + n) c * bytes ≤ (2 * 4294967296 + 192) * 4096 := Nat.mul_le_mul (by omega) hcapb.2
    omega
  have hi64 : ¬ (((m + n : Nat) : Int) > IntKind.i64.max) := by
    have : IntKind.i64.max = 9223372036854775807 := by decide
    rw [this]; omega
  have hfit' : ¬ (m + n ≤ c) := by omega
  simp only [Builtin.append_, h0, h1, Sem.run_bind, run_underlyingD hst, run_underlyingD hxt, Result.andThen_ok, run_sizeOfD hs, Sem.run_pure, List.getElem?_toArray, List.getElem?_cons_zero, List.getElem?_cons_succ]
  cases u <;> first
    | exact absurd rfl (hni _)
    | (simp only [Bool.false_eq_true, if_false, e1, Result.andThen_ok, Sem.run_bind, Sem.run_pure, hfit', run_typeInfoD hi, hmem, hi64, false_and, run_chooseD (P := P) (q := .appendCap (m + n) c elem) rfl, run_askRoom,
        hro (drewW w) rfl, hrn (drewW w) rfl, Bool.not_false, if_true, hr0, Go.newRow, run_newObj]
       rfl)

theorem elemsOf_old {size m : Nat} {x : DV} {old : List DV} {v : Value} (h : Rel M σ S w) (hx : VR M σ x v) (he : elemsOf size S x = some (m, old)) :
    old.length = m * size ∧ ∃ vs : List Value, VRs M σ old vs ∧ ∀ w' : World, w'.heap = w.heap → (Builtin.firstCells size m v).run P.prog w' = .ok vs.toArray w' := by
  obtain ⟨e1, e2, e3⟩ := elemsOf_sound (P := P) h hx he
  obtain ⟨vs, h1, h2⟩ := e3 m (Nat.le_refl _)
  rw [List.take_of_length_le (by omega)] at h1
  exact ⟨e2, vs, h1, h2⟩

/-- An append that fits. -/
theorem append_fits {at_ : Array TypeId} {ty st xt elem : TypeId} {u : TypeDesc} {size n m c β o : Nat} {vx : Value} {vn : List Value} {w' : World}
    (h0 : at_[0]? = some st) (h1 : at_[1]? = some xt) (hst : P.underlying st = some (.slice elem)) (hxt : P.underlying xt = some u) (hni : ∀ k, u ≠ .int k)
    (hs : sizeD P elem = some size) (e1 : (Builtin.lenOf vx).run P.prog w = .ok n w) (e2 : (Builtin.firstCells size n vx).run P.prog w = .ok vn.toArray w) (hfit : m + n ≤ c)
    (hstore : (storeCells ⟨β, o + m * size, none⟩ vn).run P.prog w = .ok () w') :
    (Builtin.append_ at_ ty #[.slice (some ⟨β, o, none⟩) m c, vx]).run P.prog w = .ok (.slice (some ⟨β, o, none⟩) (m + n) c) w' := by
  simp only [Builtin.append_, h0, h1, Sem.run_bind, run_underlyingD hst, run_underlyingD hxt, Result.andThen_ok, run_sizeOfD hs, Sem.run_pure, List.getElem?_toArray, List.getElem?_cons_zero, List.getElem?_cons_succ]
  cases u <;> first
    | exact absurd rfl (hni _)
    | (simp only [Bool.false_eq_true, if_false, e1, Result.andThen_ok, Sem.run_bind, Sem.run_pure, hfit, if_true, Bool.not_false, e2, addr_add, hstore])

theorem append_nil {at_ : Array TypeId} {ty st xt elem : TypeId} {u : TypeDesc} {size : Nat} {vx : Value} {vn : List Value}
    (h0 : at_[0]? = some st) (h1 : at_[1]? = some xt) (hst : P.underlying st = some (.slice elem)) (hxt : P.underlying xt = some u) (hni : ∀ k, u ≠ .int k)
    (hs : sizeD P elem = some size) (e1 : (Builtin.lenOf vx).run P.prog w = .ok 0 w) (e2 : (Builtin.firstCells size 0 vx).run P.prog w = .ok vn.toArray w) :
    (Builtin.append_ at_ ty #[.slice none 0 0, vx]).run P.prog w = .ok (.slice none 0 0) w := by
  simp only [Builtin.append_, h0, h1, Sem.run_bind, run_underlyingD hst, run_underlyingD hxt, Result.andThen_ok, run_sizeOfD hs, Sem.run_pure, List.getElem?_toArray, List.getElem?_cons_zero, List.getElem?_cons_succ]
  cases u <;> first
    | exact absurd rfl (hni _)
    | (simp only [Bool.false_eq_true, if_false, e1, Result.andThen_ok, Sem.run_bind, Sem.run_pure, Nat.add_zero, Nat.le_refl, if_true, Bool.not_false, e2])

theorem VRs.nil_of {vs : List Value} {ds : List DV} (h : VRs M σ ds vs) (hl : ds.length = 0) : vs = [] := by
  have := h.length; exact List.eq_nil_of_length_eq_zero (by omega)

/-- A grown row goes over into a new box, its block being the same one. -/
theorem Rel.regrow {tt : TypeId} {k0 : Kind} (hk0 : k0 = .grown tt ∨ k0 = .text tt) {b β k el : Nat} {cs news : List DV} {vn : List Value} {c : Array Value} {fz : Nat × Nat} (h : Rel M σ S w) (hb : σ b = some (β, k)) (hbox : S[b]? = some (.cells cs k0))
    (hc : w.heap[β]? = some (.cells c el fz)) (hvn : VRs M σ news vn) (hfit : cs.length + news.length ≤ c.size) (hat : news.all DV.atom = true) :
    ∃ w', (storeCells ⟨β, cs.length, none⟩ vn).run P.prog w = .ok () w' ∧ Step M σ S w M (σ.add S.length (β, k)) (S.set b .dead ++ [.cells (cs ++ news) k0]) w' := by
  obtain ⟨β', c0, el', fz', h1, h2, h3, h4, h5, h6, h7, h8⟩ := h.box b _ hbox
  rw [hb] at h1; injection h1 with h1; injection h1 with h1 h1'; subst h1
  rw [hc] at h2; injection h2 with h2; injection h2 with h2 h2' h2''; subst h2 h2' h2''
  have hnl := hvn.length
  have hkf : k0 ≠ .fixed := by rcases hk0 with rfl | rfl <;> simp
  have hkx : ∀ t, k0 ≠ .exact t := fun t => by rcases hk0 with rfl | rfl <;> simp
  have hlc : cs.length + vn.length ≤ c.toList.length := by simp; omega
  have hlt := lt_of_get hc
  have hrun := run_storeCellsD (P := P) (o := cs.length) vn 0 c w hc (by simp; simp at hlc; omega) (fun j hj hj2 q => (h6 hkf).2 j hj (fun _ => hj2) ⟨fun _ => q.1, q.2⟩) (hvn.atoms hat)
  simp only [Nat.add_zero] at hrun
  have ho : Owns S b := .inl ⟨_, _, hbox, hkf⟩
  have hdom := h.dom _ _ _ hb
  have hk := h.kill b
  have hfresh := h.fresh
  have hle := Inj.le_add (σ := σ) (p := (β, k)) hfresh
  have hsame : ∀ {c' : Nat} {γ n : Nat}, Live (S.set b .dead) c' → σ c' = some (γ, n) → γ ≠ β := by
    intro c' γ n hl hc' e
    subst e
    obtain ⟨y, hy, hd⟩ := hl
    rw [List.getElem?_set] at hy
    split at hy
    · split at hy
      · injection hy with hy; exact hd hy.symm
      · cases hy
    · rename_i hne
      exact hne (h.sep b c' _ _ _ ho ⟨y, hy, hd⟩ hb hc')
  have hlen : (S.set b .dead).length = S.length := by simp
  have hrel : Rel M (σ.add S.length (β, k)) (S.set b .dead ++ [.cells (cs ++ news) k0]) (setW w β (.cells (over c.toList cs.length vn).toArray el fz)) := by
    refine ⟨fun γ o v hm => ?_, fun x γ n hx => ?_, fun x y hy => ?_, fun x x' γ n n' hox hlx hx hx' => ?_⟩
    · have hne : β ≠ γ := fun e => by subst e; exact h.mem_free ho hb hm
      rw [cell?_congr (setW_ne hne)]; exact h.mem γ o v hm
    · unfold Inj.add at hx
      split at hx
      · rename_i e; injection hx with hx; injection hx with hx1 hx2; subst e hx1
        exact ⟨by simp, by simpa [setW] using hdom.2⟩
      · have := h.dom _ _ _ hx
        exact ⟨by simp; omega, by simpa [setW] using this.2⟩
    · rcases get_append_one hy with hy | ⟨e, rfl⟩
      · cases y with
        | dead => trivial
        | _ =>
          refine (hk.box x _ hy).mono (Mem.le_refl M) hle (fun γ n hx hd => setW_ne fun e => ?_) (fun _ _ _ hn => hn)
          exact hsame ⟨_, hy, hd⟩ hx e.symm
      · rw [hlen] at e; subst e
        refine ⟨β, (over c.toList cs.length vn).toArray, el, fz, ?_, setW_same hlt, ?_, fun t e => absurd e (hkx t), fun j d hj => ?_, fun _ => ⟨(h6 hkf).1, fun o ho ho2 => (h6 hkf).2 o ?_ (fun e => by have := ho2 e; simp at this; omega)⟩, fun e => absurd e hkf, h8⟩
        · rw [Inj.add_same]; simp [over_length hlc, h1']
        · simp [over_length hlc]; omega
        · simp only [List.getElem?_toArray]
          rw [over_get hlc]
          by_cases hjc : j < cs.length
          · rw [List.getElem?_append_left hjc] at hj
            rw [if_neg (by omega)]
            obtain ⟨v, hv, hr⟩ := h5 j d hj
            exact ⟨v, by simpa using hv, hr.mono (Mem.le_refl M) hle⟩
          · rw [List.getElem?_append_right (by omega)] at hj
            have := lt_of_lget hj
            rw [if_pos ⟨by omega, by omega⟩]
            obtain ⟨v, hv, hr⟩ := hvn.get hj
            exact ⟨v, hv, hr.mono (Mem.le_refl M) hle⟩
        · simpa [over_length hlc] using ho
    · have low : ∀ {z : Nat}, Live (S.set b .dead ++ [.cells (cs ++ news) k0]) z → z ≠ S.length → Live (S.set b .dead) z := fun {z} hz hne => by
        obtain ⟨y, hy, hd⟩ := hz
        rcases get_append_one hy with hy | ⟨e, _⟩
        · exact ⟨y, hy, hd⟩
        · rw [hlen] at e; exact absurd e hne
      unfold Inj.add at hx hx'
      split at hx
      · rename_i e
        split at hx'
        · rename_i e'; rw [e, e']
        · rename_i e'
          injection hx with hx; injection hx with hx1 hx2
          exact absurd hx1.symm (hsame (low hlx e') hx')
      · rename_i e
        have hox' := hox.low (by rw [hlen]; exact e)
        split at hx'
        · injection hx' with hx'; injection hx' with hx1 hx2
          exact absurd hx1.symm (hsame hox'.live hx)
        · rename_i e'
          exact hk.sep x x' γ n n' hox' (low hlx e') hx hx'
  refine ⟨_, hrun, Mem.le_refl M, fun _ _ _ h => .inl h, hle, hrel, ⟨rfl, rfl, rfl, by simp [setW], fun γ hγ hno => setW_ne fun e => by subst e; exact hno b k ho hb⟩, fun x γ n hox hx hγ => ?_⟩
  unfold Inj.add at hx
  split at hx
  · injection hx with hx; injection hx with hx1 hx2; subst hx1
    exact ⟨b, k, ho, hb⟩
  · rename_i e
    have hox' := hox.low (by rw [hlen]; exact e)
    refine ⟨x, n, ?_, hx⟩
    have old : ∀ {y : Box}, (S.set b .dead)[x]? = some y → y ≠ .dead → S[x]? = some y := fun {y} hy hd => by
      rw [List.getElem?_set] at hy
      split at hy
      · split at hy
        · injection hy with hy; exact absurd hy.symm hd
        · cases hy
      · exact hy
    rcases hox' with ⟨cs, k, hy, hk⟩ | ⟨es, k, hy⟩ | ⟨s, p, hy⟩
    · exact .inl ⟨_, _, old hy (by simp), hk⟩
    · exact .inr (.inl ⟨_, _, old hy (by simp)⟩)
    · exact .inr (.inr ⟨_, _, old hy (by simp)⟩)

theorem Step.kill (h : Rel M σ S w) (b : Nat) : Step M σ S w M σ (S.set b .dead) w :=
  ⟨Mem.le_refl M, fun _ _ _ h => .inl h, Inj.le_refl σ, h.kill b, Keeps.refl σ S w, fun x β n ho hx _ => by
    have old : ∀ {y : Box}, (S.set b .dead)[x]? = some y → y ≠ .dead → S[x]? = some y := fun {y} hy hd => by
      rw [List.getElem?_set] at hy
      split at hy
      · split at hy
        · injection hy with hy; exact absurd hy.symm hd
        · cases hy
      · exact hy
    refine ⟨x, n, ?_, hx⟩
    rcases ho with ⟨cs, k, hy, hk⟩ | ⟨es, k, hy⟩ | ⟨s, p, hy⟩
    · exact .inl ⟨_, _, old hy (by simp), hk⟩
    · exact .inr (.inl ⟨_, _, old hy (by simp)⟩)
    · exact .inr (.inr ⟨_, _, old hy (by simp)⟩)⟩

theorem appendD_sound {ro lim : Nat} {at_ : Array TypeId} {ty : TypeId} {s x d : DV} {vs vx : Value} {S' : Store} {e : Eff} (h : Rel M σ S w) (hsv : VR M σ s vs) (hx : VR M σ x vx)
    (ha : appendD P ro lim at_ s x S = some (d, S', e)) : ∃ u σ' w', (Builtin.append_ at_ ty #[vs, vx]).run P.prog w = .ok u w' ∧ VR M σ' d u ∧ Step M σ S w M σ' S' w' := by
  unfold appendD at ha
  split at ha
  · cases ha
  · rename_i elem u hni hu0 hu1
    cases h0 : at_[0]? with
    | none => simp [h0] at hu0
    | some st =>
    cases h1 : at_[1]? with
    | none => simp [h1] at hu1
    | some xt =>
    simp only [h0, h1, Option.bind_some] at hu0 hu1
    have hni' : ∀ k, u ≠ .int k := hni
    split at ha
    · rename_i size bytes z hs hby hz
      split at ha
      · rename_i hcond
        obtain ⟨hpos, hzl⟩ := hcond
        cases hz0 : zeroD P elem with
        | none => simp [hz0] at hz
        | some z0 =>
        simp only [hz0, Option.bind_some] at hz
        split at ha
        · rename_i n news hnews
          obtain ⟨e1, e2, e3⟩ := elemsOf_sound (P := P) h hx hnews
          obtain ⟨vn, hvn, hrn⟩ := e3 n (Nat.le_refl _)
          rw [List.take_of_length_le (by omega)] at hvn
          split at ha
          · -- nil
            cases hsv
            split at ha
            · rename_i hn0
              subst hn0
              simp only [Option.some.injEq, Prod.mk.injEq] at ha
              obtain ⟨rfl, rfl, rfl⟩ := ha
              exact ⟨_, σ, w, append_nil h0 h1 hu0 hu1 hni' hs (e1 w) (hrn w rfl), .nils, Step.refl h⟩
            · rename_i hn0
              split at ha
              · rename_i hcap
                simp only [Option.some.injEq, Prod.mk.injEq] at ha
                obtain ⟨rfl, rfl, rfl⟩ := ha
                obtain ⟨cap', w', r1, q, r2, r3, _⟩ := append_grow (ty := ty) (old := []) (m := 0) (c := 0) (base := none) h h0 h1 hu0 hu1 hni' hs hby hz0 hz hzl hpos hx hnews (by simpa using hcap)
                  ⟨[], .nil, fun w' _ => rfl⟩ (by simp) (Nat.le_refl _) (by omega) (rowKind_or P elem)
                simp only [Nat.zero_add, List.nil_append] at r1 r2 r3
                exact ⟨_, _, w', r1, r2, r3⟩
              · cases ha
          · rename_i rows ex
            split at ha
            · rename_i hn0
              subst hn0
              simp only [Option.some.injEq, Prod.mk.injEq] at ha
              obtain ⟨rfl, rfl, rfl⟩ := ha
              have hnil := hvn.nil_of (by simpa using e2)
              subst hnil
              cases hsv with
              | sl hrows g1 g2 =>
              exact ⟨_, σ, w, append_fits h0 h1 hu0 hu1 hni' hs (e1 w) (hrn w rfl) (by omega) rfl, .sl hrows g1 g2, Step.refl h⟩
            · rename_i hn0
              split at ha
              · rename_i m old hold
                split at ha
                · rename_i hc
                  obtain ⟨rfl, hcap⟩ := hc
                  simp only [Option.some.injEq, Prod.mk.injEq] at ha
                  obtain ⟨rfl, rfl, rfl⟩ := ha
                  obtain ⟨ol1, ol2⟩ := elemsOf_old (P := P) h hsv hold
                  have hm : m = rows.length := by
                    simp only [elemsOf] at hold
                    split at hold
                    · simp only [Option.some.injEq, Prod.mk.injEq] at hold; exact hold.1.symm
                    · cases hold
                  subst hm
                  cases hsv with
                  | sl hrows g1 g2 =>
                  rename_i β o sz c
                  have hce := g2 rfl
                  subst hce
                  obtain ⟨cap', w', r1, q, r2, r3, _⟩ := append_grow (ty := ty) h h0 h1 hu0 hu1 hni' hs hby hz0 hz hzl hpos hx hnews hcap ol2 ol1 (Nat.le_refl _) (by omega) (rowKind_or P elem)
                  exact ⟨_, _, w', r1, r2, r3⟩
                · cases ha
              · cases ha
          · rename_i b off sz len cap
            split at ha
            · rename_i hn0
              subst hn0
              simp only [Option.some.injEq, Prod.mk.injEq] at ha
              obtain ⟨rfl, rfl, rfl⟩ := ha
              have hnil := hvn.nil_of (by simpa using e2)
              subst hnil
              cases hsv with
              | msl hb g1 g2 g3 =>
              exact ⟨_, σ, w, append_fits h0 h1 hu0 hu1 hni' hs (e1 w) (hrn w rfl) (by omega) rfl, .msl hb g1 g2 g3, Step.refl h⟩
            · rename_i hn0
              split at ha
              · rename_i cs k hbox
                split at ha
                · rename_i c
                  split at ha
                  · rename_i hfit
                    split at ha
                    · rename_i hc
                      obtain ⟨rfl, hle, hk, hat, hesc⟩ := hc
                      simp only [Option.some.injEq, Prod.mk.injEq] at ha
                      obtain ⟨rfl, rfl, rfl⟩ := ha
                      cases hsv with
                      | msl hb g1 g2 g3 =>
                      rename_i β k' c'
                      have hcc := g2 c rfl
                      subst hcc
                      have hle' : off + len * sz + news.length ≤ cs.length := by rw [e2, Nat.add_assoc, ← Nat.add_mul]; exact hle
                      obtain ⟨w', r1, r2⟩ := storeBox (P := P) h hb hbox hk hle' hvn hat
                      exact ⟨_, σ, w', append_fits h0 h1 hu0 hu1 hni' hs (e1 w) (hrn w rfl) hfit r1, .msl hb hfit (fun k hk => by injection hk) (fun e => by cases e), r2⟩
                    · cases ha
                  · rename_i hfit
                    split at ha
                    · rename_i m old hold
                      split at ha
                      · rename_i hcap
                        simp only [Option.some.injEq, Prod.mk.injEq] at ha
                        obtain ⟨rfl, rfl, rfl⟩ := ha
                        obtain ⟨ol1, ol2⟩ := elemsOf_old (P := P) h hsv hold
                        have hm : m = len := by
                          simp only [elemsOf] at hold
                          split at hold
                          · simp only [hbox] at hold
                            cases hp : piece cs off (len * sz) with
                            | none => simp [hp] at hold
                            | some ys => simp only [hp, Option.map_some, Option.some.injEq, Prod.mk.injEq] at hold; exact hold.1.symm
                          · cases hold
                        subst hm
                        cases hsv with
                        | msl hb g1 g2 g3 =>
                        rename_i β k' c'
                        have hcc := g2 c rfl
                        subst hcc
                        obtain ⟨cap', w', r1, q, r2, r3, _⟩ := append_grow (ty := ty) h h0 h1 hu0 hu1 hni' hs hby hz0 hz hzl hpos hx hnews hcap ol2 ol1 g1 (by omega) (rowKind_or P elem)
                        exact ⟨_, _, w', r1, r2, r3⟩
                      · cases ha
                    · cases ha
                · split at ha
                  · rename_i hc
                    obtain ⟨rfl, rfl, hlen, hk, hat, hcap, hro⟩ := hc
                    simp only [Option.some.injEq, Prod.mk.injEq] at ha
                    obtain ⟨rfl, rfl, rfl⟩ := ha
                    have hold : elemsOf sz S (.msl b 0 sz len none) = some (len, cs) := by
                      simp only [elemsOf, if_true, hbox, piece, Nat.zero_add, hlen, Nat.le_refl, List.drop_zero, List.take_length, Option.map_some]
                    obtain ⟨ol1, ol2⟩ := elemsOf_old (P := P) h hsv hold
                    cases hsv with
                    | msl hb g1 g2 g3 =>
                    rename_i β k' c'
                    have hg := g3 rfl
                    rw [Nat.zero_add] at hg
                    by_cases hfit : len + n ≤ c'
                    · obtain ⟨β', c0, el', fz', q1, q2, q3, q4, q5, q6, q7, q8⟩ := h.box b _ hbox
                      rw [hb] at q1; injection q1 with q1; injection q1 with q1 q1'; subst q1
                      have hfc : cs.length + news.length ≤ c0.size := by
                        rw [← q1', ← hg, ← hlen, e2, ← Nat.add_mul]; exact Nat.mul_le_mul_right _ hfit
                      obtain ⟨w', r1, r2⟩ := Rel.regrow (P := P) hk h hb hbox q2 hvn hfc hat
                      refine ⟨_, _, w', append_fits h0 h1 hu0 hu1 hni' hs (e1 w) (hrn w rfl) hfit (by rw [Nat.zero_add, hlen]; exact r1), .msl (Inj.add_same _ _ _) hfit (fun k hk => by cases hk) (fun _ => by rw [Nat.zero_add]; exact hg), r2⟩
                    · obtain ⟨cap', w', r1, q, r2, r3, rq⟩ := append_grow (ty := ty) h h0 h1 hu0 hu1 hni' hs hby hz0 hz hzl hpos hx hnews hcap ol2 ol1 g1 (by omega) hk
                      have hkill := Step.kill r3.rel b
                      have hset : (S ++ [Box.cells (cs ++ news) k]).set b .dead = S.set b .dead ++ [Box.cells (cs ++ news) k] := by
                        have := (h.dom _ _ _ hb).1
                        rw [List.set_append_left _ _ this]
                      rw [hset] at hkill
                      exact ⟨_, _, w', r1, r2, r3.trans hkill⟩
                  · cases ha
              · cases ha
          · cases ha
        · cases ha
      · cases ha
    · cases ha
  · cases ha

theorem copyD_sound {ro lim : Nat} {at_ : Array TypeId} {ty : TypeId} {dst src d : DV} {vd vs : Value} {S' : Store} {e : Eff} (h : Rel M σ S w) (hd : VR M σ dst vd) (hs : VR M σ src vs)
    (ha : copyD P ro lim at_ dst src S = some (d, S', e)) : ∃ u σ' w', (Builtin.copy_ at_ ty #[vd, vs]).run P.prog w = .ok u w' ∧ VR M σ' d u ∧ Step M σ S w M σ' S' w' := by
  unfold copyD at ha
  split at ha
  · rename_i elem hu0
    cases h0 : at_[0]? with
    | none => simp [h0] at hu0
    | some st =>
    simp only [h0, Option.bind_some] at hu0
    split at ha
    · rename_i size hsz
      split at ha
      · rename_i n news b off sz len cap hel
        split at ha
        · rename_i cs k hbox
          dsimp only at ha
          split at ha
          · rename_i hm0
            simp only [Option.some.injEq, Prod.mk.injEq] at ha
            obtain ⟨rfl, rfl, rfl⟩ := ha
            obtain ⟨e1, e2, e3⟩ := elemsOf_sound (P := P) h hs hel
            obtain ⟨vn, hvn, hrn⟩ := e3 (min n len) (Nat.min_le_left _ _)
            have hnil := hvn.nil_of (by rw [hm0]; simp)
            subst hnil
            cases hd with
            | msl hb g1 g2 g3 =>
            refine ⟨.int .i64 (min n len : Nat), σ, w, ?_, by rw [hm0]; exact .int _ _, Step.refl h⟩
            have hmin : Nat.min n len = min n len := rfl
            simp only [Builtin.copy_, h0, List.getElem?_toArray, List.getElem?_cons_zero, List.getElem?_cons_succ, Sem.run_bind, run_underlyingD hu0, Result.andThen_ok, e1, run_sizeOfD hsz, hmin, hrn w rfl, storeCells, Sem.run_pure, goInt]
          split at ha
          · rename_i hc
            obtain ⟨rfl, hle, hk, hat, hesc, hxl⟩ := hc
            simp only [Option.some.injEq, Prod.mk.injEq] at ha
            obtain ⟨rfl, rfl, rfl⟩ := ha
            obtain ⟨e1, e2, e3⟩ := elemsOf_sound (P := P) h hs hel
            obtain ⟨vn, hvn, hrn⟩ := e3 (min n len) (Nat.min_le_left _ _)
            cases hd with
            | msl hb g1 g2 g3 =>
            rename_i β k' c'
            have hmul : min n len * sz ≤ len * sz := Nat.mul_le_mul_right _ (Nat.min_le_right _ _)
            obtain ⟨w', r1, r2⟩ := storeBox (P := P) h hb hbox hk (off := off) (xs := news.take (min n len * sz)) (by rw [hxl]; omega) hvn hat
            refine ⟨.int .i64 (min n len : Nat), σ, w', ?_, .int _ _, r2⟩
            have hmin : Nat.min n len = min n len := rfl
            simp only [Builtin.copy_, h0, List.getElem?_toArray, List.getElem?_cons_zero, List.getElem?_cons_succ, Sem.run_bind, run_underlyingD hu0, Result.andThen_ok, e1, run_sizeOfD hsz, hmin, hrn w rfl, r1, Sem.run_pure, goInt]
          · cases ha
        · cases ha
      · cases ha
    · cases ha
  · cases ha
end
end Go.Dv
