/- A region that draws its order: what the order of the text gives, every order gives. -/
import Derived.Test.YtjojemebfojpnaaGreatDoorBhStep
import Derived.Test.YtjojemebfojpnaaGreatDoorBhKinds
set_option linter.unusedVariables false
set_option linter.unusedSimpArgs false
namespace Go.Dv
open Go

section
variable {P : Types} {G : Nat → Option (List DV)} {call : CallD}

theorem opD_congr {ro lim : Nat} {sl sl2 : List DV} {op : Op} {S : Store} (h : ∀ x ∈ op.operands, opdD G sl2 x = opdD G sl x) : opD P G call ro lim sl2 op S = opD P G call ro lim sl op S := by
  have pairs : ∀ ps : Array (Nat × Operand), (∀ x ∈ (ps.toList.map (·.2)), opdD G sl2 x = opdD G sl x) → (ps.toList.map fun p => (p.1, opdD G sl2 p.2)) = ps.toList.map fun p => (p.1, opdD G sl p.2) := fun ps hp =>
    List.map_congr_left fun p hm => by rw [hp p.2 (List.mem_map.2 ⟨p, hm, rfl⟩)]
  have lists : ∀ ps : Array Operand, (∀ x ∈ ps, opdD G sl2 x = opdD G sl x) → ps.toList.map (opdD G sl2) = ps.toList.map (opdD G sl) := fun ps hp =>
    List.map_congr_left fun p hm => hp p (Array.mem_toList_iff.1 hm)
  cases op <;> simp only [Op.operands] at h <;> simp only [opD]
  case build t ps => rw [pairs ps fun x hx => h x (by simpa using hx)]
  case buildSlice t n ps => rw [pairs ps fun x hx => h x (by simpa using hx)]
  case makeFunc fn first captured => rw [lists first fun x hx => h x (by simp [hx]), lists captured fun x hx => h x (by simp [hx])]
  case makeMap t r => cases r <;> simp_all
  case slice t x lo hi mx => cases lo <;> cases hi <;> cases mx <;> simp_all
  case call c =>
    have ha := lists c.args fun x hx => h x (by simp [Call.operands, hx])
    rw [ha]
    cases hc : c.callee with
    | value f => have hf : opdD G sl2 f = opdD G sl f := h f (by simp [Call.operands, hc]); simp only [hf]
    | _ => rfl
  all_goals first | rfl | (simp_all; done)

theorem evalD_congr {ro lim : Nat} {ops : Array Oper} {o : Oper} {sl sl2 : List DV} {S : Store} (h : ∀ t ∈ looksD ops o, sl2[t]? = sl[t]?) :
    evalD P G call ro lim ops o sl2 S = evalD P G call ro lim ops o sl S := by
  have hw : wantD ops sl2 o = wantD ops sl o := by
    unfold wantD
    cases hg : o.guard with
    | none => rfl
    | some jw =>
      obtain ⟨j, want⟩ := jw
      cases hd : (ops[j]?).bind (·.dst) with
      | none => simp only [hd]
      | some t =>
        have : sl2[t]? = sl[t]? := h t (List.mem_append_right _ (by simp [hg, hd]))
        simp only [hd, this]
  have hx : ∀ x ∈ o.op.operands, opdD G sl2 x = opdD G sl x := fun x hx => by
    cases x with
    | tmp t =>
      have : sl2[t]? = sl[t]? := h t (List.mem_append_left _ (List.mem_filterMap.2 ⟨.tmp t, Array.mem_toList_iff.2 hx, rfl⟩))
      simp only [opdD, List.getD, this]
    | _ => rfl
  unfold evalD
  rw [hw]
  cases hop : o.op <;> rw [hop] at hx <;> first
    | (simp only [opD_congr (P := P) (call := call) (ro := ro) (lim := lim) (S := S) hx]; done)
    | skip
  all_goals
    rename_i c
    have ha : c.args.toList.map (opdD G sl2) = c.args.toList.map (opdD G sl) := List.map_congr_left fun p hm => hx p (by simp [Op.operands, Call.operands, Array.mem_toList_iff.1 hm])
    simp only [ha]
    cases hc : c.callee with
    | value f =>
      have hf : opdD G sl2 f = opdD G sl f := hx f (by simp [Op.operands, Call.operands, hc])
      simp only [hf]
    | _ => rfl

theorem maskD_bit {acc : List Nat} {j : Nat} : ∀ {es : List Edge}, (maskD acc es).testBit j = true → ∃ e ∈ es, Region.binds .any e = true ∧ (e.on = j ∨ (acc.getD e.on 0).testBit j = true)
  | [], h => by simp [maskD] at h
  | e :: es, h => by
    unfold maskD at h
    split at h
    · rename_i hb
      simp only [Nat.testBit_or, Bool.or_eq_true] at h
      rcases h with (h | h) | h
      · rw [Nat.testBit_two_pow] at h
        exact ⟨e, by simp, hb, .inl (by simpa using h)⟩
      · exact ⟨e, by simp, hb, .inr h⟩
      · obtain ⟨e', he', h'⟩ := maskD_bit h
        exact ⟨e', by simp [he'], h'⟩
    · obtain ⟨e', he', h'⟩ := maskD_bit h
      exact ⟨e', by simp [he'], h'⟩

theorem befs_old : ∀ {l : List Oper} {acc : List Nat} {i : Nat}, i < acc.length → (befs l acc)[i]? = acc[i]?
  | [], acc, i, h => rfl
  | o :: l, acc, i, h => by
    unfold befs
    rw [befs_old (by simp; omega), List.getElem?_append_left h]

theorem befs_new : ∀ {l : List Oper} {acc : List Nat} {i : Nat} {o : Oper}, l[i]? = some o → ∃ pre : List Nat, (befs l acc)[acc.length + i]? = some (maskD pre o.after.toList) ∧ pre.length = acc.length + i ∧ ∀ k, k < pre.length → pre[k]? = (befs l acc)[k]?
  | [], acc, i, o, h => by simp at h
  | o' :: l, acc, 0, o, h => by
    simp only [List.getElem?_cons_zero, Option.some.injEq] at h; subst h
    refine ⟨acc, ?_, by simp, fun k hk => ?_⟩
    · unfold befs
      rw [befs_old (by simp)]
      simp
    · unfold befs
      rw [befs_old (by simp; omega), List.getElem?_append_left hk]
  | o' :: l, acc, i + 1, o, h => by
    simp only [List.getElem?_cons_succ] at h
    obtain ⟨pre, h1, h2, h3⟩ := befs_new (acc := acc ++ [maskD acc o'.after.toList]) h
    refine ⟨pre, ?_, by simp at h2; omega, fun k hk => ?_⟩
    · unfold befs
      rw [← h1]; congr 1; simp; omega
    · unfold befs; exact h3 k hk

/-- Does operation j lie ahead of operation i? -/
def Bef (ops : Array Oper) (j i : Nat) : Prop := ((befs ops.toList []).getD i 0).testBit j = true

theorem bef_edge {ops : Array Oper} {i j : Nat} {o : Oper} (hi : ops[i]? = some o) (hback : ∀ e ∈ o.after.toList, Region.binds .any e = true → e.on < i) (h : Bef ops j i) :
    ∃ e ∈ o.after.toList, Region.binds .any e = true ∧ (e.on = j ∨ Bef ops j e.on) := by
  obtain ⟨pre, h1, h2, h3⟩ := befs_new (l := ops.toList) (acc := []) (i := i) (o := o) (by simpa using hi)
  simp only [List.length_nil, Nat.zero_add] at h1 h2
  unfold Bef at h
  rw [List.getD, h1] at h
  simp only [Option.getD_some] at h
  obtain ⟨e, he, hb, h⟩ := maskD_bit h
  refine ⟨e, he, hb, h.imp id fun h => ?_⟩
  have hlt := hback e he hb
  unfold Bef
  rw [List.getD, ← h3 e.on (by omega)]
  exact h

theorem Eff.free_comm (a b : Eff) : a.free b = b.free a := by
  cases a <;> cases b <;> simp [Eff.free, bne_comm]

/-- A run in the order of the text. -/
structure TextRun (P : Types) (G : Nat → Option (List DV)) (call : CallD) (ro lim : Nat) (ops : Array Oper) where
  fr : Nat → Fr
  st : Nat → Store
  val : Nat → DV
  eff : Nat → Eff
  df : Nat → List (FuncId × List DV)
  step : ∀ i o, ops[i]? = some o → evalD P G call ro lim ops o (fr i).sl (st i) = some (val i, st (i + 1), eff i, df i) ∧ fr (i + 1) = ({ fr i with df := df i ++ (fr i).df } : Fr).put o.dst (val i)
  free : ∀ i j, i < ops.size → j < i → (eff i).free (eff j) = true ∨ Bef ops j i

theorem effOk_mem {b : Nat} {e : Eff} : ∀ {l : List (Nat × Eff)}, effOk b e l = true → ∀ i k, (i, k) ∈ l → e.free k = true ∨ b.testBit i = true
  | [], _, i, k, h => by simp at h
  | (i', k') :: l, h, i, k, hm => by
    simp only [effOk, Bool.and_eq_true, Bool.or_eq_true] at h
    simp only [List.mem_cons, Prod.mk.injEq] at hm
    rcases hm with ⟨rfl, rfl⟩ | hm
    · exact h.1
    · exact effOk_mem h.2 i k hm

theorem drawD_run {ro lim : Nat} {ops : Array Oper} : ∀ {l : List Oper} {i : Nat} {acc : List (Nat × Eff)} {fr fr' : Fr} {S S' : Store}, (∀ j, l[j]? = ops[i + j]?) → drawD P G call ro lim ops (befs ops.toList []) i l acc fr S = some (fr', S') →
    ∃ (FR : Nat → Fr) (ST : Nat → Store) (VA : Nat → DV) (EF : Nat → Eff) (DF : Nat → List (FuncId × List DV)), FR 0 = fr ∧ ST 0 = S ∧ FR l.length = fr' ∧ ST l.length = S' ∧
      (∀ k o, l[k]? = some o → evalD P G call ro lim ops o (FR k).sl (ST k) = some (VA k, ST (k + 1), EF k, DF k) ∧ FR (k + 1) = ({ FR k with df := DF k ++ (FR k).df } : Fr).put o.dst (VA k)) ∧
      (∀ k, k < l.length → (∀ j e, (j, e) ∈ acc → (EF k).free e = true ∨ Bef ops j (i + k)) ∧ ∀ j, j < k → (EF k).free (EF j) = true ∨ Bef ops (i + j) (i + k))
  | [], i, acc, fr, fr', S, S', hl, h => by
    simp only [drawD, Option.some.injEq, Prod.mk.injEq] at h
    obtain ⟨rfl, rfl⟩ := h
    exact ⟨fun _ => fr, fun _ => S, fun _ => .undef, fun _ => .pure, fun _ => [], rfl, rfl, rfl, rfl, fun k o h => by simp at h, fun k h => by simp at h⟩
  | o :: l, i, acc, fr, fr', S, S', hl, h => by
    unfold drawD at h
    split at h
    · rename_i fr1 S1 e1 hst
      split at h
      · rename_i hok
        obtain ⟨FR, ST, VA, EF, DF, q1, q2, q3, q4, q5, q6⟩ := drawD_run (fun j => by
          have := hl (j + 1)
          simp only [List.getElem?_cons_succ] at this
          rw [this]; congr 1; omega) h
        unfold stepD at hst
        split at hst
        · rename_i d S2 e2 df hev
          simp only [Option.some.injEq, Prod.mk.injEq] at hst
          obtain ⟨rfl, rfl, rfl⟩ := hst
          refine ⟨fun k => match k with | 0 => fr | k + 1 => FR k, fun k => match k with | 0 => S | k + 1 => ST k, fun k => match k with | 0 => d | k + 1 => VA k, fun k => match k with | 0 => e2 | k + 1 => EF k,
            fun k => match k with | 0 => df | k + 1 => DF k, rfl, rfl, q3, q4, fun k o' hk => ?_, fun k hk => ?_⟩
          · cases k with
            | zero =>
              simp only [List.getElem?_cons_zero, Option.some.injEq] at hk; subst hk
              simp only [q1, q2]
              exact ⟨hev, trivial⟩
            | succ k => exact q5 k o' (by simpa using hk)
          · cases k with
            | zero =>
              refine ⟨fun j e hm => ?_, fun j hj => by omega⟩
              exact effOk_mem hok j e hm
            | succ k =>
              obtain ⟨r1, r2⟩ := q6 k (by simpa using hk)
              refine ⟨fun j e hm => ?_, fun j hj => ?_⟩
              · have := r1 j e (by simp [hm])
                rwa [show i + 1 + k = i + (k + 1) by omega] at this
              · cases j with
                | zero =>
                  have := r1 i e2 (by simp)
                  rwa [show i + 1 + k = i + (k + 1) by omega] at this
                | succ j =>
                  have := r2 j (by omega)
                  rwa [show i + 1 + k = i + (k + 1) by omega, show i + 1 + j = i + (j + 1) by omega] at this
        · cases hst
      · cases h
    · cases h

def Eff.turns : Eff → Bool
  | .write _ | .grow | .eff => true
  | _ => false

theorem regOk_spec {ops : Array Oper} (h : regOk ops (befs ops.toList []) = true) {i : Nat} {o : Oper} (hi : ops[i]? = some o) :
    (∀ e ∈ o.after.toList, Region.binds .any e = true → e.on < i) ∧
    ∀ t, o.dst = some t → ∀ j o', ops[j]? = some o' → j ≠ i → o'.dst ≠ some t ∧ (t ∈ looksD ops o' → if i < j then Bef ops i j else Bef ops j i) := by
  unfold regOk at h
  have hlt := lt_of_get hi
  have h1 := List.all_eq_true.1 h i (by simpa using hlt)
  simp only [hi, Bool.and_eq_true] at h1
  refine ⟨fun e he hb => ?_, fun t ht j o' hj hne => ?_⟩
  · have := List.all_eq_true.1 h1.1 e he
    simpa [hb] using this
  · have h2 := h1.2
    simp only [ht] at h2
    have h3 := List.all_eq_true.1 h2 j (by simpa using lt_of_get hj)
    simp only [hj, Bool.or_eq_true, beq_iff_eq, hne, false_or, Bool.and_eq_true, bne_iff_ne, ne_eq, Bool.not_eq_true', List.contains_eq_mem, decide_eq_false_iff_not] at h3
    refine ⟨h3.1, fun hm => ?_⟩
    have h4 := h3.2.resolve_left (fun e => e hm)
    by_cases hij : i < j
    · rw [if_pos hij]
      rw [Nat.max_eq_right (by omega), Nat.min_eq_left (by omega)] at h4
      exact h4
    · rw [if_neg hij]
      rw [Nat.max_eq_left (by omega), Nat.min_eq_right (by omega)] at h4
      exact h4
end
end Go.Dv
