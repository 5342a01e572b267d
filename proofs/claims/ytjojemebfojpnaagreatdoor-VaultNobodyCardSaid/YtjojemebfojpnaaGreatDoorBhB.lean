/- The evaluator once more, in the passing-on form: what is stuck is a bind. Equal to the first one. -/
import Derived.Test.YtjojemebfojpnaaGreatDoorBhDv
set_option linter.unusedVariables false
namespace Go.Dv
open Go

def addrEff : DV → Eff
  | .ref b _ => .read b
  | _ => .pure

def pickD (c a b : DV) : Option DV :=
  match c with
  | .bool t => some (if t then a else b)
  | _ => none

def extrD (t : DV) (ix : Nat) : Option DV :=
  match t with
  | .tup vs => vs[ix]?
  | _ => none

/-- '==' and '!='. -/
def eqB (P : Types) (op : BinOp) (t : TypeId) (xc yc : Bool) (x y : DV) : Option DV :=
  if eqGuardD P t xc yc x y = true then binD P op t x y else none

def makeMapD (P : Types) (t : TypeId) (r : Option DV) (S : Store) : Option (DV × Store) :=
  match r with
  | none => some (.mref S.length, S ++ [.map [] 0])
  | some (.int _ _) => match P.underlying t with
    | some (.map _ _) => some (.mref S.length, S ++ [.map [] 0])
    | _ => none
  | some _ => none

/-- An operation that is carried out where v is 'want'. -/
def guardO (S : Store) (v : DV) (want : Bool) (r : Res) : Res :=
  match v with
  | .bool b => if (b == want) = true then r else some (.tup [], S, .pure)
  | .undef => none
  | _ => some (.tup [], S, .pure)

def condB {R : Type} (v : DV) (yes no : Option R) : Option R :=
  match v with
  | .bool b => if b = true then yes else no
  | _ => none

section
variable {R : Type} (P : Types) (G : Nat → Option (List DV)) (call : CallD) (ro lim : Nat)

def opB (sl : List DV) (op : Op) (S : Store) (K : DV → Store → Eff → Option R) : Option R :=
  match op with
  | .move x => K (opdD G sl x) S .pure
  | .assign x => K (opdD G sl x) S .pure
  | .pick c a b => (pickD (opdD G sl c) (opdD G sl a) (opdD G sl b)).bind fun d => K d S .pure
  | .alloc elem => (zeroD P elem).bind fun z => (boxD S elem z).bind fun p => K p.1 p.2 .grow
  | .box t x => (boxD S t (opdD G sl x)).bind fun p => K p.1 p.2 .grow
  | .build t parts => (buildD P t (parts.toList.map fun p => (p.1, opdD G sl p.2))).bind fun d => K d S .pure
  | .buildSlice t len parts => (buildSliceD P S t len (parts.toList.map fun p => (p.1, opdD G sl p.2))).bind fun p => K p.1 p.2.1 p.2.2
  | .load t a => (aggD P t).bind fun agg => (sizeD P t).bind fun n => (loadD agg n S (opdD G sl a)).bind fun d => K d S (addrEff (opdD G sl a))
  | .store t a x => (sizeD P t).bind fun n => (storeD ro lim n S (opdD G sl a) (opdD G sl x)).bind fun p => K (.tup []) p.2 (.write p.1)
  | .nilCheck x => (nilD (opdD G sl x)).bind fun d => K d S .pure
  | .binOp op t x y _ => match op with
    | .eql => (eqB P .eql t (constD x) (constD y) (opdD G sl x) (opdD G sl y)).bind fun d => K d S .pure
    | .neq => (eqB P .neq t (constD x) (constD y) (opdD G sl x) (opdD G sl y)).bind fun d => K d S .pure
    | op => (binD P op t (opdD G sl x) (opdD G sl y)).bind fun d => K d S .pure
  | .unOp op _ x => (unD op (opdD G sl x)).bind fun d => K d S .pure
  | .convert src dst x => (convD P src dst (opdD G sl x) S).bind fun p => K p.1 p.2.1 p.2.2
  | .makeInterface t x => (ifaceD P t (opdD G sl x)).bind fun d => K d S .pure
  | .makeFunc fn first captured => K (.fn fn (first.toList.map (opdD G sl)) (captured.toList.map (opdD G sl))) S .pure
  | .makeMap t r => (makeMapD P t (r.map (opdD G sl)) S).bind fun p => K p.1 p.2 .grow
  | .makeSlice t l c => (makeSliceD P S t (opdD G sl l) (opdD G sl c)).bind fun p => K p.1 p.2 .grow
  | .slice t x lo hi mx => (sliceD P t (opdD G sl x) (lo.map (opdD G sl)) (hi.map (opdD G sl)) (mx.map (opdD G sl))).bind fun d => K d S .pure
  | .fieldAddr t x f => (fieldAddrD P t f (opdD G sl x)).bind fun d => K d S .pure
  | .field t x f => (fieldD P t f (opdD G sl x)).bind fun d => K d S .pure
  | .indexAddr t x i => (indexAddrD P t (opdD G sl x) (opdD G sl i)).bind fun d => K d S .pure
  | .index t x i => (indexD P t (opdD G sl x) (opdD G sl i)).bind fun d => K d S .pure
  | .lookup t x i ok => (lookupD P t (opdD G sl x) (opdD G sl i) ok S).bind fun p => K p.1 p.2.1 p.2.2
  | .mapUpdate t m k x => (updateD P ro lim t (opdD G sl m) (opdD G sl k) (opdD G sl x) S).bind fun p => K p.1 p.2.1 p.2.2
  | .mapEntry t m k => (entryD P ro t (opdD G sl m) (opdD G sl k) S).bind fun p => K p.1 p.2.1 p.2.2
  | .entryStore _ m s x => (entryStoreD ro lim (opdD G sl m) (opdD G sl s) (opdD G sl x) S).bind fun p => K p.1 p.2.1 p.2.2
  | .typeAssert x _ asserted ok => (assertD P (opdD G sl x) asserted ok).bind fun d => K d S .pure
  | .extract t ix => (extrD (opdD G sl t) ix).bind fun d => K d S .pure
  | .call c => match c.callee with
    | .builtin b => (builtinD P ro lim b c.argTypes (c.args.toList.map (opdD G sl)) S).bind fun p => K p.1 p.2.1 p.2.2
    | .value f => (targetD (opdD G sl f) (c.args.toList.map (opdD G sl))).bind fun q => (call q.1 q.2 S).bind fun p => K p.1 p.2.1 p.2.2
    | .invoke _ _ => none
  | _ => none

theorem opB_eq (sl : List DV) (op : Op) (S : Store) (K : DV → Store → Eff → Option R) :
    opB P G call ro lim sl op S K = (opD P G call ro lim sl op S).bind fun p => K p.1 p.2.1 p.2.2 := by
  have pr : ∀ (x : Option DV), (x.bind fun d => K d S .pure) = (pureR S x).bind fun p => K p.1 p.2.1 p.2.2 := fun x => by cases x <;> rfl
  have gr : ∀ (x : Option (DV × Store)), (x.bind fun p => K p.1 p.2 .grow) = (growR x).bind fun p => K p.1 p.2.1 p.2.2 := fun x => by cases x <;> rfl
  have eqk : ∀ (c : Bool) (x : Option DV), ((if c = true then x else none).bind fun d => K d S .pure) = (if c = true then pureR S x else none).bind fun p => K p.1 p.2.1 p.2.2 := fun c x => by
    cases c
    · rfl
    · exact pr x
  cases op with
  | pick c a b =>
    simp only [opB, opD]
    cases opdD G sl c <;> first | exact pr _ | rfl
  | alloc elem => simp only [opB, opD]; cases zeroD P elem <;> simp [gr]
  | load t a =>
    simp only [opB, opD]
    cases aggD P t with
    | none => rfl
    | some agg =>
      cases sizeD P t with
      | none => rfl
      | some n =>
        simp only [Option.bind_some]
        cases opdD G sl a with
        | ref b off =>
          simp only [loadR, addrEff]
          cases loadD agg n S (.ref b off) <;> rfl
        | _ => exact pr _
  | store t a x =>
    simp only [opB, opD]
    cases sizeD P t with
    | none => rfl
    | some n =>
      simp only [Option.bind_some]
      cases storeD ro lim n S (opdD G sl a) (opdD G sl x) <;> rfl
  | binOp op t x y z =>
    simp only [opB, opD]
    cases op <;> first | exact eqk _ _ | exact eqk true _
  | makeMap t r =>
    simp only [opB, opD, makeMapD]
    cases r with
    | none => rfl
    | some x =>
      simp only [Option.map_some]
      cases opdD G sl x <;> try rfl
      simp only []
      cases P.underlying t with
      | none => rfl
      | some d => cases d <;> rfl
  | extract t ix =>
    simp only [opB, opD]
    cases opdD G sl t <;> first | exact pr _ | rfl
  | call c =>
    simp only [opB, opD]
    cases c.callee with
    | value f =>
      simp only []
      cases targetD (opdD G sl f) (c.args.toList.map (opdD G sl)) <;> simp
    | invoke r m => rfl
    | builtin b => rfl
  | _ => first | rfl | (simp only [opB, opD, pr, gr]; try rfl)

/-- One operation that is carried out. -/
def doB (o : Oper) (fr : Fr) (S : Store) (K : Fr → Store → Eff → Option R) : Option R :=
  match o.op with
  | .defer c => match c.callee with
    | .value f => (targetD (opdD G fr.sl f) (c.args.toList.map (opdD G fr.sl))).bind fun p => K (({ fr with df := p :: fr.df } : Fr).put o.dst (.tup [])) S .eff
    | _ => none
  | op => opB P G call ro lim fr.sl op S fun d S' e => K (fr.put o.dst d) S' e

/-- An operation's outcome. -/
def resB (o : Oper) (sl : List DV) (S : Store) : Res := opB P G call ro lim sl o.op S fun d S' e => some (d, S', e)

def operB (ops : Array Oper) (o : Oper) (fr : Fr) (S : Store) (K : Fr → Store → Eff → Option R) : Option R :=
  match o.guard with
  | none => doB P G call ro lim o fr S K
  | some (j, want) => match ((ops[j]?).bind (·.dst)) with
    | none => K (fr.put o.dst (.tup [])) S .pure
    | some t => match o.op with
      | .defer _ => (stepD P G call ro lim ops o fr S).bind fun p => K p.1 p.2.1 p.2.2
      | _ => (fr.sl[t]?).bind fun v => (guardO S v want (resB P G call ro lim o fr.sl S)).bind fun p => K (fr.put o.dst p.1) p.2.1 p.2.2

theorem operB_eq (ops : Array Oper) (o : Oper) (fr : Fr) (S : Store) (K : Fr → Store → Eff → Option R) :
    operB P G call ro lim ops o fr S K = (stepD P G call ro lim ops o fr S).bind fun p => K p.1 p.2.1 p.2.2 := by
  have hdo : wantD ops fr.sl o = some true → doB P G call ro lim o fr S K = (stepD P G call ro lim ops o fr S).bind fun p => K p.1 p.2.1 p.2.2 := by
    intro hw
    unfold stepD evalD doB
    simp only [hw]
    generalize o.op = op
    have gen : opB P G call ro lim fr.sl op S (fun d S' e => K (fr.put o.dst d) S' e) = (match (match opD P G call ro lim fr.sl op S with
      | some (d, S', e) => some (d, S', e, ([] : List (FuncId × List DV)))
      | none => none) with
      | some (d, S', e, df) => some (({ fr with df := df ++ fr.df } : Fr).put o.dst d, S', e)
      | none => none).bind fun p => K p.1 p.2.1 p.2.2 := by
      rw [opB_eq]
      cases opD P G call ro lim fr.sl op S <;> rfl
    cases op with
    | defer c =>
      simp only []
      cases c.callee with
      | value f =>
        simp only []
        cases targetD (opdD G fr.sl f) (c.args.toList.map (opdD G fr.sl)) <;> rfl
      | _ => rfl
    | _ => exact gen
  have hno : wantD ops fr.sl o = some false → K (fr.put o.dst (.tup [])) S .pure = (stepD P G call ro lim ops o fr S).bind fun p => K p.1 p.2.1 p.2.2 := by
    intro hw
    unfold stepD evalD
    simp [hw]
  unfold operB
  split
  · rename_i hg
    exact hdo (by simp [wantD, hg])
  · rename_i j want hg
    split
    · rename_i h
      refine hno ?_
      simp only [wantD, hg, h]
    · rename_i t h
      have main : ((fr.sl[t]?).bind fun v => (guardO S v want (resB P G call ro lim o fr.sl S)).bind fun p => K (fr.put o.dst p.1) p.2.1 p.2.2) = (match wantD ops fr.sl o with
        | none => none
        | some false => some (DV.tup [], S, Eff.pure)
        | some true => opD P G call ro lim fr.sl o.op S).bind fun p => K (fr.put o.dst p.1) p.2.1 p.2.2 := by
        have hres : resB P G call ro lim o fr.sl S = opD P G call ro lim fr.sl o.op S := by
          unfold resB
          rw [opB_eq]
          cases opD P G call ro lim fr.sl o.op S <;> rfl
        rw [hres]
        simp only [wantD, hg, h]
        cases fr.sl[t]? with
        | none => rfl
        | some v =>
          cases v with
          | bool b =>
            simp only [Option.bind_some, guardO]
            cases b <;> cases want <;> rfl
          | _ => rfl
      have last : (match wantD ops fr.sl o with
        | none => none
        | some false => some (DV.tup [], S, Eff.pure)
        | some true => opD P G call ro lim fr.sl o.op S).bind (fun p => K (fr.put o.dst p.1) p.2.1 p.2.2) = (match (match wantD ops fr.sl o with
        | none => none
        | some false => some (DV.tup [], S, Eff.pure, ([] : List (FuncId × List DV)))
        | some true => match opD P G call ro lim fr.sl o.op S with
          | some (d, S', e) => some (d, S', e, [])
          | none => none) with
        | some (d, S', e, df) => some (({ fr with df := df ++ fr.df } : Fr).put o.dst d, S', e)
        | none => none).bind fun p => K p.1 p.2.1 p.2.2 := by
        cases wantD ops fr.sl o with
        | none => rfl
        | some b =>
          cases b with
          | false => rfl
          | true => cases opD P G call ro lim fr.sl o.op S <;> rfl
      split
      · rfl
      · rename_i hnd
        rw [main, last]
        unfold stepD evalD
        generalize o.op = op at hnd ⊢
        cases op with
        | defer c => exact (hnd c rfl).elim
        | _ => rfl

def opsB (ops : Array Oper) : List Oper → Fr → Store → (Fr → Store → Option R) → Option R
  | [], fr, S, K => K fr S
  | o :: rest, fr, S, K => operB P G call ro lim ops o fr S fun fr' S' _ => opsB ops rest fr' S' K

theorem opsB_eq (ops : Array Oper) : ∀ (l : List Oper) (fr : Fr) (S : Store) (K : Fr → Store → Option R), opsB P G call ro lim ops l fr S K = (opsD P G call ro lim ops l fr S).bind fun p => K p.1 p.2
  | [], fr, S, K => rfl
  | o :: rest, fr, S, K => by
    simp only [opsB, opsD, operB_eq]
    cases stepD P G call ro lim ops o fr S <;> simp [opsB_eq ops rest]

def drawB (ops : Array Oper) (b : List Nat) : Nat → List Oper → List (Nat × Eff) → Fr → Store → (Fr → Store → Option R) → Option R
  | _, [], _, fr, S, K => K fr S
  | i, o :: rest, l, fr, S, K => operB P G call ro lim ops o fr S fun fr' S' e => if effOk (b.getD i 0) e l = true then drawB ops b (i + 1) rest ((i, e) :: l) fr' S' K else none

theorem drawB_eq (ops : Array Oper) (b : List Nat) : ∀ (l : List Oper) (i : Nat) (m : List (Nat × Eff)) (fr : Fr) (S : Store) (K : Fr → Store → Option R), drawB P G call ro lim ops b i l m fr S K = (drawD P G call ro lim ops b i l m fr S).bind fun p => K p.1 p.2
  | [], i, m, fr, S, K => rfl
  | o :: rest, i, m, fr, S, K => by
    simp only [drawB, drawD, operB_eq]
    cases stepD P G call ro lim ops o fr S with
    | none => rfl
    | some p =>
      simp only [Option.bind_some]
      split
      · rw [drawB_eq ops b rest]
      · rfl

def regionB (ops : Array Oper) (draw : Bool) (fr : Fr) (S : Store) (K : Fr → Store → Option R) : Option R :=
  if draw then
    if regOk ops (befs ops.toList []) = true then drawB P G call ro lim ops (befs ops.toList []) 0 ops.toList [] fr S K else none
  else opsB P G call ro lim ops ops.toList fr S K

theorem regionB_eq (ops : Array Oper) (draw : Bool) (fr : Fr) (S : Store) (K : Fr → Store → Option R) : regionB P G call ro lim ops draw fr S K = (regionD P G call ro lim ops draw fr S).bind fun p => K p.1 p.2 := by
  unfold regionB regionD
  split
  · split
    · rw [drawB_eq]
    · rfl
  · rw [opsB_eq]

variable (fuel : Nat)

def codeB : Code → List Nat → Fr → Store → (Ex → Fr → Store → Option R) → Option R
  | .skip, _, fr, S, K => K .normal fr S
  | .label _, _, fr, S, K => K .normal fr S
  | .ret, _, fr, S, K => K .ret fr S
  | .exit id, _, fr, S, K => K (.exit id) fr S
  | .region _ ops draw, _, fr, S, K => regionB P G call ro lim ops draw fr S fun fr' S' => K .normal fr' S'
  | .seq a b, out, fr, S, K => codeB a (readsC b ++ out) fr S fun e fr' S' => match e with
    | .normal => codeB b (readsC a ++ out) fr' S' K
    | e => K e fr' S'
  | .cond c a b, out, fr, S, K => condB (opdD G fr.sl c) (codeB a (readsC b ++ out) fr S K) (codeB b (readsC a ++ out) fr S K)
  | .block id c, out, fr, S, K => codeB c out fr S fun e fr' S' => match e with
    | .exit id' => if id' = id then K .normal fr' S' else K (.exit id') fr' S'
    | e => K e fr' S'
  | .loop c, out, fr, S, K =>
    iterD fuel (fun again fr S => codeB c out fr S fun e fr' S' => match e with
      | .normal => again (forget (deadC c out) fr') S'
      | e => K e fr' S') fr S
  | _, _, _, _, _ => none

theorem codeB_eq : ∀ (c : Code) (out : List Nat) (fr : Fr) (S : Store) (K : Ex → Fr → Store → Option R), codeB P G call ro lim fuel c out fr S K = codeD P G call ro lim fuel c out fr S K := by
  intro c
  induction c with
  | region id ops draw =>
    intro out fr S K
    simp only [codeB, codeD, regionB_eq]
    cases regionD P G call ro lim ops draw fr S <;> simp
  | seq a b iha ihb =>
    intro out fr S K
    simp only [codeB, codeD, iha, ihb]
    rfl
  | cond c a b iha ihb =>
    intro out fr S K
    simp only [codeB, codeD, iha, ihb, condB]
    split <;> simp_all
  | block id c ih =>
    intro out fr S K
    simp only [codeB, codeD, ih]
    rfl
  | loop c ih =>
    intro out fr S K
    simp only [codeB, codeD, ih]
    rfl
  | _ => intros; rfl

def doneB : List ResultVar → List DV → Store → (List DV → Option R) → Option R
  | [], _, _, K => K []
  | .tmp t :: rest, sl, S, K => doneB rest sl S fun ds => K (sl.getD t .undef :: ds)
  | .cell a t :: rest, sl, S, K => (aggD P t).bind fun agg => (sizeD P t).bind fun n => (loadD agg n S (sl.getD a .undef)).bind fun d => doneB rest sl S fun ds => K (d :: ds)

theorem doneB_eq : ∀ (rs : List ResultVar) (sl : List DV) (S : Store) (K : List DV → Option R), doneB P rs sl S K = (resultsD P rs sl S).bind K
  | [], sl, S, K => rfl
  | .tmp t :: rest, sl, S, K => by
    simp only [doneB, resultsD, doneB_eq rest]
    cases resultsD P rest sl S <;> simp
  | .cell a t :: rest, sl, S, K => by
    simp only [doneB, resultsD, doneB_eq rest]
    cases aggD P t with
    | none => rfl
    | some agg =>
      cases sizeD P t with
      | none => rfl
      | some n =>
        simp only [Option.bind_some]
        cases loadD agg n S (sl.getD a .undef) with
        | none => rfl
        | some d =>
          simp only [Option.bind_some]
          cases resultsD P rest sl S <;> rfl
end

section
variable {R : Type} (dcall : CallD)
def deferB : List (FuncId × List DV) → Store → (Store → Option R) → Option R
  | [], S, K => K S
  | (f, args) :: rest, S, K => (dcall f args S).bind fun p => deferB rest p.2.1 K

theorem deferB_eq : ∀ (l : List (FuncId × List DV)) (S : Store) (K : Store → Option R), deferB dcall l S K = (deferredD dcall l S).bind K
  | [], S, K => rfl
  | (f, args) :: rest, S, K => by
    simp only [deferB, deferredD]
    cases dcall f args S with
    | none => rfl
    | some p => simp [deferB_eq rest]
end

/-- What stands behind a body. -/
def finB (P : Types) (dcall : CallD) (dfr : Bool) (fn : Func) : Ex → Fr → Store → Option (DV × Store) := fun e fr S' =>
    match e with
    | .exit _ => none
    | _ =>
      if dfr = true ∧ fr.df.isEmpty = false then none else
      deferB dcall fr.df S' fun S'' => doneB P fn.results.toList fr.sl S'' fun ds => some (resultD ds, S'')

def bodyB (P : Types) (G : Nat → Option (List DV)) (call dcall : CallD) (dfr : Bool) (ro lim fuel : Nat) (fn : Func) (args : List DV) (S : Store) : Option (DV × Store) :=
  match fn.body with
  | none => none
  | some c => codeB P G call ro lim fuel c (outsOf fn) { sl := args ++ List.replicate (fn.ntmps - args.length) (.tup []), df := [] } S (finB P dcall dfr fn)

theorem bodyB_eq (P : Types) (G : Nat → Option (List DV)) (call dcall : CallD) (dfr : Bool) (ro lim fuel : Nat) (fn : Func) (args : List DV) (S : Store) :
    bodyB P G call dcall dfr ro lim fuel fn args S = bodyD P G call dcall dfr ro lim fuel fn args S := by
  unfold bodyB bodyD
  cases fn.body with
  | none => rfl
  | some c =>
    simp only [codeB_eq]
    congr 1
    funext e fr S'
    have key : deferB dcall fr.df S' (fun S'' => doneB P fn.results.toList fr.sl S'' fun ds => some (resultD ds, S'')) = (match deferredD dcall fr.df S' with
      | none => none
      | some S'' => (resultsD P fn.results.toList fr.sl S'').map fun ds => (resultD ds, S'')) := by
      rw [deferB_eq]
      cases deferredD dcall fr.df S' with
      | none => rfl
      | some S'' =>
        simp only [Option.bind_some, doneB_eq]
        cases resultsD P fn.results.toList fr.sl S'' <;> rfl
    cases e <;> simp only [finB, key] <;> rfl
/-- The code at a place, and what is read outside it. -/
def codeAt : Code → List Nat → List Nat → Code × List Nat
  | .seq a b, out, 0 :: p => codeAt a (readsC b ++ out) p
  | .seq a b, out, _ :: p => codeAt b (readsC a ++ out) p
  | .cond _ a b, out, 0 :: p => codeAt a (readsC b ++ out) p
  | .cond _ a b, out, _ :: p => codeAt b (readsC a ++ out) p
  | .block _ c, out, _ :: p => codeAt c out p
  | .loop c, out, _ :: p => codeAt c out p
  | c, out, _ => (c, out)

/-- A function's code at a place, and what is read outside it. -/
def codeIn (fn : Func) (p : List Nat) : Code × List Nat := codeAt (fn.body.getD .skip) (outsOf fn) p

section
variable {R : Type} (P : Types) (G : Nat → Option (List DV)) (call : CallD) (ro lim fuel : Nat)

def loopB (c : Code) (out : List Nat) (K : Ex → Fr → Store → Option R) : (Fr → Store → Option R) → Fr → Store → Option R :=
  fun again fr S => codeB P G call ro lim fuel c out fr S fun e fr' S' => match e with
      | .normal => again (forget (deadC c out) fr') S'
      | e => K e fr' S'

/-- What stands behind the code at a place; 'ags': the loops round it, the outermost first. -/
def contB : Code → List Nat → List Nat → List (Fr → Store → Option R) → (Ex → Fr → Store → Option R) → Ex → Fr → Store → Option R
  | .seq a b, out, 0 :: p, ags, K => contB a (readsC b ++ out) p ags fun e fr' S' => match e with
    | .normal => codeB P G call ro lim fuel b (readsC a ++ out) fr' S' K
    | e => K e fr' S'
  | .seq a b, out, _ :: p, ags, K => contB b (readsC a ++ out) p ags K
  | .cond _ a b, out, 0 :: p, ags, K => contB a (readsC b ++ out) p ags K
  | .cond _ a b, out, _ :: p, ags, K => contB b (readsC a ++ out) p ags K
  | .block id c, out, _ :: p, ags, K => contB c out p ags fun e fr' S' => match e with
    | .exit id' => if id' = id then K .normal fr' S' else K (.exit id') fr' S'
    | e => K e fr' S'
  | .loop c, out, _ :: p, again :: ags, K => contB c out p ags fun e fr' S' => match e with
      | .normal => again (forget (deadC c out) fr') S'
      | e => K e fr' S'
  | _, _, _, _, K => K

/-- The code at a place. -/
def runB (fn : Func) (p : List Nat) (K : Ex → Fr → Store → Option R) (fr : Fr) (S : Store) : Option R :=
  codeB P G call ro lim fuel (codeIn fn p).1 (codeIn fn p).2 fr S K

/-- The round of the loop whose code is at a place. -/
def roundB (fn : Func) (p : List Nat) (K : Ex → Fr → Store → Option R) : (Fr → Store → Option R) → Fr → Store → Option R :=
  loopB P G call ro lim fuel (codeIn fn p).1 (codeIn fn p).2 K

/-- What stands behind the code at a place q within that at r. -/
def restB (fn : Func) (r q : List Nat) (K : Ex → Fr → Store → Option R) : Ex → Fr → Store → Option R :=
  contB P G call ro lim fuel (codeIn fn r).1 (codeIn fn r).2 q [] K
end

/-- What stands behind the first of two. -/
def thenK {R : Type} (r : Fr → Store → Option R) (K : Ex → Fr → Store → Option R) : Ex → Fr → Store → Option R := fun e fr S => match e with
  | .normal => r fr S
  | e => K e fr S
/-- What stands behind a block's code. -/
def blockK {R : Type} (id : Nat) (K : Ex → Fr → Store → Option R) : Ex → Fr → Store → Option R := fun e fr S => match e with
  | .exit id' => if id' = id then K .normal fr S else K (.exit id') fr S
  | e => K e fr S
/-- What stands behind a round. -/
def roundK {R : Type} (dead : List Nat) (again : Fr → Store → Option R) (K : Ex → Fr → Store → Option R) : Ex → Fr → Store → Option R := fun e fr S => match e with
  | .normal => again (forget dead fr) S
  | e => K e fr S
theorem thenK_normal {R : Type} (r : Fr → Store → Option R) (K : Ex → Fr → Store → Option R) (fr : Fr) (S : Store) : thenK r K .normal fr S = r fr S := rfl
theorem thenK_ret {R : Type} (r : Fr → Store → Option R) (K : Ex → Fr → Store → Option R) (fr : Fr) (S : Store) : thenK r K .ret fr S = K .ret fr S := rfl
theorem thenK_exit {R : Type} (r : Fr → Store → Option R) (K : Ex → Fr → Store → Option R) (i : Nat) (fr : Fr) (S : Store) : thenK r K (.exit i) fr S = K (.exit i) fr S := rfl
theorem blockK_normal {R : Type} (id : Nat) (K : Ex → Fr → Store → Option R) (fr : Fr) (S : Store) : blockK id K .normal fr S = K .normal fr S := rfl
theorem blockK_ret {R : Type} (id : Nat) (K : Ex → Fr → Store → Option R) (fr : Fr) (S : Store) : blockK id K .ret fr S = K .ret fr S := rfl
theorem blockK_exit {R : Type} (id i : Nat) (K : Ex → Fr → Store → Option R) (fr : Fr) (S : Store) : blockK id K (.exit i) fr S = if i = id then K .normal fr S else K (.exit i) fr S := rfl
theorem roundK_ret {R : Type} (dead : List Nat) (again : Fr → Store → Option R) (K : Ex → Fr → Store → Option R) (fr : Fr) (S : Store) : roundK dead again K .ret fr S = K .ret fr S := rfl
theorem roundK_exit {R : Type} (dead : List Nat) (again : Fr → Store → Option R) (K : Ex → Fr → Store → Option R) (i : Nat) (fr : Fr) (S : Store) : roundK dead again K (.exit i) fr S = K (.exit i) fr S := rfl


/-- What a call is evaluated with. -/
structure Cx where
  call : CallD
  dcall : CallD
  ro : Nat
  lim : Nat
  k : Nat

def cx (E : Env) (k ro lim : Nat) : Cx := ⟨callD E k false ro lim, callD E k true ro lim, ro, lim, k⟩

section
variable {E : Env} {k ro lim : Nat} {f : FuncId} {fn : Func} {args : List DV} {S : Store}

def bodyX (P : Types) (G : Nat → Option (List DV)) (c : Cx) (dfr : Bool) (fn : Func) (args : List DV) (S : Store) : Option (DV × Store) :=
  bodyB P G c.call c.dcall dfr c.ro c.lim c.k fn args S

theorem callD_pure (hx : E.ext f = none) (hf : E.P.func f = some fn) (hm : E.mode f = .pure) (ha : DV.under.underAll 0 args = true) :
    callD E (k + 1) false ro lim f args S = (bodyX E.P E.G (cx E k 0 0) false fn args []).bind fun p => (sealD 0 p.2 sealDepth p.1).map fun d => (d, S, .pure) := by
  unfold bodyX cx
  rw [bodyB_eq]
  unfold callD
  simp only [hx, hf, hm, ha, Bool.false_eq_true, if_false, if_true]
  cases bodyD E.P E.G (callD E k false 0 0) (callD E k true 0 0) false 0 0 k fn args [] with
  | none => rfl
  | some p =>
    simp only [Option.bind_some]
    cases sealD 0 p.2 sealDepth p.1 <;> rfl

theorem callD_read (hx : E.ext f = none) (hf : E.P.func f = some fn) (hm : E.mode f = .read) :
    callD E (k + 1) false ro lim f args S = (bodyX E.P E.G (cx E k S.length S.length) false fn args S).bind fun p => (sealD S.length p.2 sealDepth p.1).map fun d => (d, S, .look) := by
  unfold bodyX cx
  rw [bodyB_eq]
  unfold callD
  simp only [hx, hf, hm, Bool.false_eq_true, if_false]
  cases bodyD E.P E.G (callD E k false S.length S.length) (callD E k true S.length S.length) false S.length S.length k fn args S with
  | none => rfl
  | some p =>
    simp only [Option.bind_some]
    cases sealD S.length p.2 sealDepth p.1 <;> rfl

theorem callD_trunc (hx : E.ext f = none) (hf : E.P.func f = some fn) (hm : E.mode f = .trunc) :
    callD E (k + 1) false ro lim f args S = (bodyX E.P E.G (cx E k ro S.length) false fn args S).bind fun p => (sealD S.length p.2 sealDepth p.1).map fun d => (d, p.2.take S.length, .eff) := by
  unfold bodyX cx
  rw [bodyB_eq]
  unfold callD
  simp only [hx, hf, hm, Bool.false_eq_true, if_false]
  cases bodyD E.P E.G (callD E k false ro S.length) (callD E k true ro S.length) false ro S.length k fn args S with
  | none => rfl
  | some p =>
    simp only [Option.bind_some]
    cases sealD S.length p.2 sealDepth p.1 <;> rfl

theorem callD_keep (hx : E.ext f = none) (hf : E.P.func f = some fn) (hm : E.mode f = .keep) :
    callD E (k + 1) false ro lim f args S = (bodyX E.P E.G (cx E k ro lim) false fn args S).map fun p => (p.1, p.2, .eff) := by
  unfold bodyX cx
  rw [bodyB_eq]
  unfold callD
  simp only [hx, hf, hm, Bool.false_eq_true, if_false]
  cases bodyD E.P E.G (callD E k false ro lim) (callD E k true ro lim) false ro lim k fn args S <;> rfl
end
end Go.Dv
