/-
  A machine that can be run: code, calls.
  Conditions: none (definitions).
-/
import Derived.Test.YtbhlfbkheijojaaEv1
namespace Go.Dm

noncomputable section
structure SS where
  ts : Sl
  h : TH
  c : Nat
  low : Nat

def big : Nat := 18446744073709551616
/-- a slot set; none: there is no such slot -/
def putS (ts : Sl) (d : Option Tmp) (v : SV) : Sl := Option.rec (motive := fun _ => Sl) ts (fun d => ⟨Tr.set v 64 ts.t d, ts.n⟩) d
def okD (ts : Sl) (d : Option Tmp) : Bool := Option.rec (motive := fun _ => Bool) true (fun d => Nat.blt d ts.n && Nat.ble ts.n 4294967296) d
def upsT (h : TH) : SUps → TH
  | [] => h
  | (k, b) :: r => upsT (Tr.set b 64 h k) r
def lowU (low : Nat) : SUps → Nat
  | [] => low
  | (k, _) :: r => lowU (bif Nat.blt k low then k else low) r
def okU : SUps → Bool
  | [] => true
  | (k, _) :: r => Nat.blt k 9223372036854775808 && okU r
def sFnOf (f : SV) (args : List SV) : Option (FuncId × List SV) := match f with | .fn g a b => some (g, a ++ args ++ b) | _ => none
def sCallOf (ts : Sl) (o : Op) : Option (FuncId × List SV) :=
  match o with
  | .call { callee := .value f, args, .. } => sFnOf (sEv ts f) (args.toList.map (sEv ts))
  | _ => none
def isCallOp : Op → Bool
  | .call { callee := .value _, .. } => true
  | _ => false
def sgval (ops : Array Oper) (ts : Sl) (j : Nat) : SV := match (ops[j]?).bind (·.dst) with | some d => (bif Nat.blt d ts.n then ts.at d else .any) | none => .any

abbrev SOut := SV × TH × Nat × Nat

def SS.ap (s : SS) (d : Option Tmp) (x : SV × SUps) : SS := ⟨putS s.ts d x.1, upsT s.h x.2, s.c, lowU s.low x.2⟩

/-- what an operation comes to -/
inductive OR where
  | bad
  | one (s : SS)
  | many (l : List SS)

def oneOp (s : SS) (d : Option Tmp) (x : Option (SV × SUps)) : OR :=
  match x with
  | none => .bad
  | some x => bif okD s.ts d && okU x.2 then .one (s.ap d x) else .bad
def afterCall (s : SS) (d : Option Tmp) (x : SOut) : SS := ⟨putS s.ts d x.1, x.2.1, x.2.2.1, bif Nat.blt x.2.2.2 s.low then x.2.2.2 else s.low⟩
def callOp (s : SS) (d : Option Tmp) (x : Option (List SOut)) : OR :=
  match x with
  | none => .bad
  | some l => bif okD s.ts d then (match l with | [] => .bad | [x] => .one (afterCall s d x) | l => .many (l.map (afterCall s d))) else .bad
def nxOp (s : SS) (d : Option Tmp) (x : Option (List (SV × SUps))) : OR :=
  match x with
  | none => .bad
  | some l => bif okD s.ts d && l.all (fun x => okU x.2) then (match l with | [] => .bad | [x] => .one (s.ap d x) | l => .many (l.map (s.ap d))) else .bad
def callIt (call : Nat → List SV → TH → Nat → Option (List SOut)) (s : SS) (fa : Option (FuncId × List SV)) : Option (List SOut) :=
  match fa with
  | some (f, args) => call f args s.h s.c
  | none => none
def dstN (d : Option Tmp) : Nat := Option.rec (motive := fun _ => Nat) 0 (fun d => d) d

def sDo (X : Ctx) (call : Nat → List SV → TH → Nat → Option (List SOut)) (b0 : Nat) (o : Oper) (s : SS) : OR :=
  bif isCallOp o.op then callOp s o.dst (callIt call s (sCallOf s.ts o.op))
  else bif isNx o.op then nxOp s o.dst (sNx X.P (b0 + dstN o.dst) s.ts o.op s.h)
  else oneOp s o.dst (sOp X (b0 + dstN o.dst) s.ts o.op s.h)

def sDoF (X : Ctx) (call : Nat → List SV → TH → Nat → Option (List SOut)) (b0 : Nat) (o : Oper) (s : SS) : OR :=
  bif isCallOp o.op then callOp s o.dst (callIt call s (sCallOf s.ts o.op))
  else bif isNx o.op then nxOp s o.dst (sNx X.P (b0 + dstN o.dst) s.ts o.op s.h)
  else oneOp s o.dst (sOpF X (b0 + dstN o.dst) s.ts o.op s.h)
theorem sDoF_eq : sDoF = sDo := by
  funext X call b0 o s
  unfold sDoF sDo
  rw [sOpF_eq]

def bindL {α β : Type} (f : α → Option (List β)) : List α → Option (List β)
  | [] => some []
  | x :: r =>
    match f x with
    | none => none
    | some l =>
      match r with
      | [] => some l
      | _ :: _ => match bindL f r with | none => none | some m => some (l ++ m)

/-- what becomes of a guard: some true: do it -/
def sGuard (ops : Array Oper) (o : Oper) (ts : Sl) : Option Bool :=
  match o.guard with
  | none => some true
  | some (j, b) =>
    match sgval ops ts j with
    | .bool c => some (c == b)
    | .tup [] => some false
    | _ => none
def skipS (s : SS) (d : Option Tmp) : SS := ⟨putS s.ts d (.tup []), s.h, s.c, s.low⟩

def sNest (X : Ctx) (call : Nat → List SV → TH → Nat → Option (List SOut)) (b0 : Nat) (ops : Array Oper) : List Oper → SS → Option (List SS)
  | [], s => some [s]
  | o :: r, s =>
    match sGuard ops o s.ts with
    | none => none
    | some false => bif okD s.ts o.dst then sNest X call b0 ops r (skipS s o.dst) else none
    | some true =>
      match sDoF X call b0 o s with
      | .bad => none
      | .one s => sNest X call b0 ops r s
      | .many l => bindL (sNest X call b0 ops r) l

def Γb (b : Nat) : Pures := { p := fun _ => none, h := fun _ => none, base := b, ex := true }
def Γl (b : Nat) (fp : Option Tmp → List Nat × Nat × Nat) : Pures := { p := fun _ => none, h := fun _ => none, base := b, ex := true, lc := true, fp := fp }
def Γ0 : Pures := Γl 0 fun _ => ([], 0, 0)
mutual
/-- a value's keys -/
def dkeys : SV → List Nat
  | .ptr k _ _ => [k]
  | .own k _ _ _ => [k]
  | .mapr k => [k]
  | .it k => [k]
  | .agg l => dkeyss l
  | .tup l => dkeyss l
  | .fn _ a b => dkeyss a ++ dkeyss b
  | _ => []
def dkeyss : List SV → List Nat
  | [] => []
  | a :: r => dkeys a ++ dkeyss r
end
def rowKeys : List (List SV) → List Nat
  | [] => []
  | a :: r => dkeyss a ++ rowKeys r
def blkKeys : SBlk → List Nat
  | .dead => []
  | .row _ _ es => rowKeys es
  | .mapl _ es _ => es.flatMap fun x => dkeys x.2.1
  | .itl src _ _ _ => dkeys src
/-- does a tree hold something there -/
def Tr.hasK {α : Type} (t : Tr α) (k : Nat) : Bool := Option.rec (motive := fun _ => Bool) false (fun _ => true) (t.get k)
mutual
def sInK (p : Nat → Bool) : SV → Bool
  | .ptr k _ _ => p k
  | .own k _ _ _ => p k
  | .mapr k => p k
  | .it k => p k
  | .agg l => sInKs p l
  | .tup l => sInKs p l
  | .fn _ a b => sInKs p a && sInKs p b
  | _ => true
def sInKs (p : Nat → Bool) : List SV → Bool
  | [] => true
  | a :: r => sInK p a && sInKs p r
end
def sBlkIn (p : Nat → Bool) : SBlk → Bool
  | .dead => true
  | .row _ _ es => es.all (sInKs p)
  | .mapl _ es _ => es.all fun x => sInK p x.2.1
  | .itl src _ _ _ => sInK p src
/-- what can be reached -/
def reachT (h : TH) : Nat → List Nat → List Nat → TH → Option (List Nat × TH)
  | 0, _, _, _ => none
  | _ + 1, [], ks, sub => some (ks, sub)
  | n + 1, k :: r, ks, sub =>
    match sub.get k with
    | some _ => reachT h n r ks sub
    | none =>
      match h.get k with
      | none => none
      | some b => bif Nat.blt k 9223372036854775808 then reachT h n (blkKeys b ++ r) (k :: ks) (Tr.set b 64 sub k) else none
def allK (f : Nat → SBlk → Bool) : Nat → Nat → TH → Bool
  | _, _, .lf => true
  | a, b, .nd l v r => (match v with | some x => f b x | none => true) && allK f (2 * a) (a + b) l && allK f (2 * a) (2 * a + b) r
def mrgT : TH → TH → TH
  | h, .lf => h
  | .lf, t => t
  | .nd l v r, .nd l' v' r' => .nd (mrgT l l') (match v' with | some x => some x | none => v) (mrgT r r')

abbrev Rec := Option Tmp × List Nat × Nat × Nat
def recOf : List Rec → Option Tmp → List Nat × Nat × Nat
  | [], _ => ([], 0, 0)
  | x :: r, d => if x.1 = d then x.2 else recOf r d
def hasRec (l : List Rec) (d : Option Tmp) : Bool := l.any fun x => decide (x.1 = d)

/-- a call upon what it reaches alone -/
def callLoc (call : Nat → List SV → TH → Nat → Option (List SOut)) (s : SS) (d : Option Tmp) (fa : Option (FuncId × List SV)) : Option (SS × Rec) :=
  match fa with
  | none => none
  | some (f, args) =>
    match reachT s.h 100000 (dkeyss args) [] .lf with
    | none => none
    | some (ks, sub) =>
      bif okD s.ts d && sInKs sub.hasK args && allK (fun _ b => sBlkIn sub.hasK b) 1 0 sub then
        match call f args sub s.c with
        | some [x] =>
          bif allK (fun k _ => sub.hasK k || (Nat.ble s.c k && Nat.blt k x.2.2.1 && !(s.h.hasK k))) 1 0 x.2.1 then
            some (⟨putS s.ts d x.1, mrgT s.h x.2.1, x.2.2.1, bif Nat.blt x.2.2.2 s.low then x.2.2.2 else s.low⟩, (d, ks, s.c, x.2.2.1))
          else none
        | _ => none
      else none

/-- operations one after the other, calls upon what they reach alone -/
def sNestD (X : Ctx) (call : Nat → List SV → TH → Nat → Option (List SOut)) (b0 : Nat) (ops : Array Oper) : List Oper → SS → List Rec → Option (SS × List Rec)
  | [], s, l => some (s, l)
  | o :: r, s, l =>
    match sGuard ops o s.ts with
    | none => none
    | some false => bif okD s.ts o.dst then sNestD X call b0 ops r (skipS s o.dst) l else none
    | some true =>
      bif isCallOp o.op then
        bif hasRec l o.dst then none else
        match callLoc call s o.dst (sCallOf s.ts o.op) with
        | none => none
        | some (s, x) => sNestD X call b0 ops r s (x :: l)
      else
        match sDoF X call b0 o s with
        | .one s => sNestD X call b0 ops r s l
        | _ => none

def skeys : SV → List Nat
  | .ptr k _ _ => [k]
  | .own k _ _ _ => [k]
  | .mapr k => [k]
  | .it k => [k]
  | _ => []
def skys (b0 : Nat) (o : Oper) (ts : Sl) : List Nat := (b0 + o.dst.getD 0) :: o.op.operands.toList.flatMap fun x => skeys (sEv ts x)
def swr (b0 : Nat) (o : Oper) (ts : Sl) : List Nat := if opQuiet o.op then [] else skys b0 o ts
def sApart2 (b0 : Nat) (l : List Rec) (a b : Oper) (ts : Sl) : Bool :=
  if cls Γ0 a.op = 4 then (skys b0 b ts).all (fun k => !inFp (recOf l a.dst) k) else
  if cls Γ0 b.op = 4 then (skys b0 a ts).all (fun k => !inFp (recOf l b.dst) k) else
  (swr b0 a ts).all (fun k => !(skys b0 b ts).contains k) && (swr b0 b ts).all (fun k => !(skys b0 a ts).contains k)
def sApart (b0 : Nat) (l : List Rec) (ops : Array Oper) (ts : Sl) : Bool :=
  (loose Γ0 ops).all fun p => match ops[p.1]?, ops[p.2]? with | some oj, some oi => sApart2 b0 l oj oi ts | _, _ => true

/-- a number that is worked out -/
def withN {α : Type} (f : Nat → α) (n : Nat) : α := Nat.rec (motive := fun _ => α) (f 0) (fun m _ => f (Nat.succ m)) n
def withB {α : Type} (f : Nat → α) (n : Nat) : α := bif Nat.beq n 0 then f n else f n

/-- may an operation lay a new block under its slot's key -/
def isNew : Op → Bool
  | .range .. => true
  | .store .. => false
  | .call { callee := .value _, .. } => false
  | o => !opQuiet o
/-- how many keys an operations' run takes: none where nothing new is laid -/
def newN (ops : Array Oper) (n : Nat) : Nat := bif ops.toList.any (fun o => isNew o.op) then n else 0
def newND (ops : Array Oper) (n : Nat) : Nat := bif ops.toList.any (fun o => isNew o.op || isCallOp o.op) then n else 0

def sRegD (X : Ctx) (call : Nat → List SV → TH → Nat → Option (List SOut)) (ops : Array Oper) (s : SS) : Option (List SS) :=
  match sNestD X call s.c ops ops.toList ⟨s.ts, s.h, s.c + newND ops s.ts.n, s.low⟩ [] with
  | none => none
  | some (s', l) => bif sApart s.c l ops s'.ts then some [s'] else none
def sRegion (X : Ctx) (call : Nat → List SV → TH → Nat → Option (List SOut)) (ops : Array Oper) (draw : Bool) (s : SS) : Option (List SS) :=
  match draw with
  | false => sNest X call s.c ops ops.toList ⟨s.ts, s.h, s.c + newN ops s.ts.n, s.low⟩
  | true => bif drawOK Γ0 ops then sRegD X call ops s else none

abbrev SE := Exit × SS

def sCond (a b : SS → Option (List SE)) (c : SV) (s : SS) : Option (List SE) :=
  match c with
  | .bool true => a s
  | .bool false => b s
  | .bq true true => match a s, b s with | some l, some m => some (l ++ m) | _, _ => none
  | .bq true false => a s
  | .bq false true => b s
  | _ => none

def exNormal : SS → SE := fun s => (.normal, s)

def sStep (X : Ctx) (call : Nat → List SV → TH → Nat → Option (List SOut)) (ih : Code → SS → Option (List SE)) (c : Code) (s : SS) : Option (List SE) :=
  match c with
  | .skip => some [(.normal, s)]
  | .region _ ops d => (sRegion X call ops d s).map fun l => l.map exNormal
  | .seq a b =>
    match ih a s with
    | none => none
    | some outs => bindL (fun x => match x with | (.normal, s) => ih b s | (e, s) => some [(e, s)]) outs
  | .cond c a b => sCond (ih a) (ih b) (sEv s.ts c) s
  | .block id c => (ih c s).map fun l => l.map fun x => match x with | (.exit i, s) => if i = id then (.normal, s) else (.exit i, s) | (e, s) => (e, s)
  | .loop c =>
    match ih c s with
    | none => none
    | some outs => bindL (fun x => match x with | (.normal, s) => ih (.loop c) s | (e, s) => some [(e, s)]) outs
  | .exit id => some [(.exit id, s)]
  | .scope c => match ih c s with | none => none | some l => if l.all (fun x => match x with | (.goto _, _) => false | _ => true) then some l else none
  | .label _ => some [(.normal, s)]
  | .ret => some [(.ret, s)]
  | _ => none

structure StepF where
  run : Ctx → (Nat → List SV → TH → Nat → Option (List SOut)) → (Code → SS → Option (List SE)) → SS → Option (List SE)
def runSeq (k : SS → Option (List SE)) (x : SE) : Option (List SE) := match x with | (.normal, s) => k s | (e, s) => some [(e, s)]
def mkStep (c : Code) : StepF :=
  match c with
  | .skip => ⟨fun _ _ _ s => some [(.normal, s)]⟩
  | .region _ ops d => ⟨fun X call _ s => (sRegion X call ops d s).map fun l => l.map exNormal⟩
  | .seq a b => ⟨fun _ _ ih s =>
    match ih a s with
    | none => none
    | some outs => bindL (fun x => match x with | (.normal, s) => ih b s | (e, s) => some [(e, s)]) outs⟩
  | .cond c a b => ⟨fun _ _ ih s => sCond (ih a) (ih b) (sEvF s.ts c) s⟩
  | .block id c => ⟨fun _ _ ih s => (ih c s).map fun l => l.map fun x => match x with | (.exit i, s) => if i = id then (.normal, s) else (.exit i, s) | (e, s) => (e, s)⟩
  | .loop c => ⟨fun _ _ ih s =>
    match ih c s with
    | none => none
    | some outs => bindL (fun x => match x with | (.normal, s) => ih (.loop c) s | (e, s) => some [(e, s)]) outs⟩
  | .exit id => ⟨fun _ _ _ s => some [(.exit id, s)]⟩
  | .scope c => ⟨fun _ _ ih s => match ih c s with | none => none | some l => if l.all (fun x => match x with | (.goto _, _) => false | _ => true) then some l else none⟩
  | .label _ => ⟨fun _ _ _ s => some [(.normal, s)]⟩
  | .ret => ⟨fun _ _ _ s => some [(.ret, s)]⟩
  | _ => ⟨fun _ _ _ _ => none⟩
def sStepF (X : Ctx) (call : Nat → List SV → TH → Nat → Option (List SOut)) (ih : Code → SS → Option (List SE)) (c : Code) (s : SS) : Option (List SE) := (mkStep c).run X call ih s
theorem sStepF_eq : sStepF = sStep := by
  funext X call ih c s
  unfold sStepF mkStep sStep
  rw [sEvF_eq]
  split <;> rfl

def sResOne (P : Program) (s : SS) : ResultVar → Option SV
  | .tmp t => some (s.ts.at t)
  | .cell a t => match tyOf P t, s.ts.at a with | some (ag, n + 1), .ptr k e o => sLoad ag (List.replicate (n + 1) .raw) k e o s.h | _, _ => none
def sResAll (P : Program) (s : SS) : List ResultVar → Option (List SV)
  | [] => some []
  | r :: rs => match sResOne P s r, sResAll P s rs with | some v, some vs => some (v :: vs) | _, _ => none
def sRes (P : Program) (s : SS) (rs : List ResultVar) : Option SV :=
  match sResAll P s rs with
  | some [v] => some v
  | some vs => some (.tup vs)
  | none => none
def sRet (P : Program) (fn : Func) (x : SE) : Option SOut :=
  match x with
  | (.normal, s) => (sRes P s fn.results.toList).map fun v => (v, s.h, s.c, s.low)
  | (.ret, s) => (sRes P s fn.results.toList).map fun v => (v, s.h, s.c, s.low)
  | _ => none
def sRets (P : Program) (fn : Func) : List SE → Option (List SOut)
  | [] => some []
  | x :: r => match sRet P fn x, sRets P fn r with | some v, some vs => some (v :: vs) | _, _ => none

mutual
def sveq : SV → SV → Bool
  | .bool a, .bool b => a == b
  | .int k a, .int k' a' => kEq k k' && iEq a a'
  | .lin a b, .lin a' b' => iEq a a' && iEq b b'
  | .str a, .str b => decide (a = b)
  | .nilp, .nilp => true
  | .nilmap, .nilmap => true
  | .nilsl, .nilsl => true
  | .emp, .emp => true
  | .any, .any => true
  | .opq, .opq => true
  | .ptr a b c, .ptr a' b' c' => a == a' && b == b' && c == c'
  | .own a b c d, .own a' b' c' d' => a == a' && b == b' && c == c' && d == d'
  | .mapr a, .mapr b => a == b
  | .it a, .it b => a == b
  | .agg a, .agg b => sveqs a b
  | .tup a, .tup b => sveqs a b
  | _, _ => false
def sveqs : List SV → List SV → Bool
  | [], [] => true
  | a :: r, b :: s => sveq a b && sveqs r s
  | _, _ => false
end
def sveqss : List (List SV) → List (List SV) → Bool
  | [], [] => true
  | a :: r, b :: s => sveqs a b && sveqss r s
  | _, _ => false

mutual
/-- does a value name keys below c alone -/
def below (c : Nat) : SV → Bool
  | .ptr k _ _ => decide (k < c)
  | .own k _ _ _ => decide (k < c)
  | .mapr k => decide (k < c)
  | .it k => decide (k < c)
  | .agg l => belows c l
  | .tup l => belows c l
  | .fn _ a b => belows c a && belows c b
  | _ => true
def belows (c : Nat) : List SV → Bool
  | [] => true
  | a :: r => below c a && belows c r
end
def belowBlk (c : Nat) : SBlk → Bool
  | .dead => true
  | .row _ _ es => es.all (belows c)
  | .mapl _ es _ => es.all fun x => below c x.2.1
  | .itl src _ _ _ => below c src
/-- what a call hands back, told by itself: a row of its own, or what names elder blocks alone -/
def sCanon (c : Nat) (x : SOut) : Option (SV × Option (Tag × Nat × List (List SV))) :=
  match x.1 with
  | .own k off len tg =>
    if k < c then some (x.1, none) else
    match x.2.1.get k with
    | some (.row tag sz es) => if es.all (belows c) then some (.own c off len tg, some (tag, sz, es)) else none
    | _ => none
  | v => if below c v then some (v, none) else none
def tagEq : Tag → Tag → Bool
  | .var, .var => true
  | .vec, .vec => true
  | .lone, .lone => true
  | _, _ => false
def sSame (c : Nat) (x : SV × Option (Tag × Nat × List (List SV))) (y : SOut) : Bool :=
  decide (c ≤ y.2.2.2) &&
  match sCanon c y with
  | some (v, b) =>
    sveq x.1 v && (match x.2, b with
      | none, none => true
      | some (t, n, es), some (t', n', es') => tagEq t t' && n == n' && sveqss es es'
      | _, _ => false)
  | none => false
def maxC : Nat → List SOut → Nat
  | c, [] => c
  | c, x :: r => maxC (bif Nat.blt c x.2.2.1 then x.2.2.1 else c) r
def sMerge (h : TH) (c : Nat) (l : List SOut) : Option (List SOut) :=
  match l with
  | [] => none
  | [x] => some [x]
  | x :: y :: r =>
    if allK (fun k b => Nat.blt k c && belowBlk c b) 1 0 h && decide (c < 9223372036854775808) then
      match sCanon c x with
      | some z =>
        if (x :: y :: r).all (sSame c z) then
          some [(z.1, match z.2 with | some (t, n, es) => Tr.set (.row t n es) 64 h c | none => h, maxC (c + 1) (x :: y :: r), c)]
        else none
      | none => none
    else none

/-- a row is cut, of which the first argument's variable holds a first part alone -/
def sTrim (args : List SV) (o : SOut) : SOut :=
  match args with
  | .ptr p _ _ :: _ =>
    match o.2.1.get p with
    | some (.row _ _ ((.own k off len _ :: _) :: _)) =>
      match o.2.1.get k with
      | some (.row .lone z es) => bif Nat.blt k 9223372036854775808 then (o.1, Tr.set (.row .lone z (es.take (off + len))) 64 o.2.1 k, o.2.2.1, bif Nat.blt k o.2.2.2 then k else o.2.2.2) else o
      | _ => o
    | _ => o
  | _ => o

/-- values in slots -/
def slT : List SV → Nat → Tr SV → Tr SV
  | [], _, t => t
  | a :: r, i, t => slT r (i + 1) (Tr.set a 64 t i)
def sCall (X : Ctx) (ih : Code → SS → Option (List SE)) (f : Nat) (args : List SV) (h : TH) (c : Nat) : Option (List SOut) :=
  match X.spec f args h c with
  | some x => if okU x.2 then some [(x.1, upsT h x.2, c + 1, lowU c x.2)] else none
  | none =>
    match X.P.funcs[f]? with
    | some fn =>
      match fn.body with
      | some code =>
        bif callable X.P f && Nat.ble args.length fn.ntmps && Nat.ble fn.ntmps 4294967296 then
          match ih code ⟨⟨slT args 0 .lf, fn.ntmps⟩, h, c, big⟩ with
          | none => none
          | some outs => match sRets X.P fn outs with | none => none | some l => sMerge h c (bif X.cuts f then l.map (sTrim args) else l)
        else none
      | none => none
    | none => none

def sRun (X : Ctx) (n : Nat) : Code → SS → Option (List SE) :=
  Nat.rec (motive := fun _ => Code → SS → Option (List SE)) (fun _ _ => none) (fun _ ih => sStepF X (sCall X ih) ih) n

/-- a call, out of an empty memory, told to be of one value -/
def sTop (X : Ctx) (n : Nat) (f : Nat) (args : List SV) : Option (List SOut) := sCall X (sRun X n) f args .lf 1

def isTrue : Option (List SOut) → Bool
  | some l => l.all fun x => match x.1 with | .bool true => true | _ => false
  | none => false

end

end Go.Dm
