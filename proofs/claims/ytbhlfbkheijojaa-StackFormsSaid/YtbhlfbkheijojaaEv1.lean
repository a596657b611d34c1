/-
  A machine that can be run: values in which whole numbers are known, or a + b * n; each operation. Written so that the kernel works it out fast.
  Conditions: none (definitions).
-/
import Derived.Test.YtbhlfbkheijojaaEng28
namespace Go.Dm
noncomputable section

/-- values that are worked out -/
inductive SV where
  | bool (b : Bool)
  | int (k : IntKind) (n : Int)
  | lin (a b : Int)
  | str (s : ByteArray)
  | nilp | nilmap | nilsl | emp | any | opq
  | ptr (k e o : Nat)
  | own (k off len : Nat) (tight : Bool)
  | mapr (k : Nat)
  | it (k : Nat)
  | bq (p q : Bool)
  | agg (cs : List SV)
  | tup (vs : List SV)
  | fn (f : Nat) (fst cap : List SV)

instance : Inhabited SV := ⟨.any⟩

/-- whole numbers: known; a + b * n -/
inductive SI where
  | c (n : Int)
  | l (a b : Int)

inductive SKey where
  | i (x : SI)
  | s (x : ByteArray)
  | p (x y : SI)

abbrev SEnts := List (SKey × SV × Nat)

inductive SBlk where
  | dead
  | row (tag : Tag) (sz : Nat) (es : List (List SV))
  | mapl (kd : Nat) (es : SEnts) (clock : Nat)
  | itl (src : SV) (since : Nat) (seen : List Nat) (last : Nat)

abbrev SUps := List (Nat × SBlk)

/-- trees over the digits of numbers -/
inductive Tr (α : Type) where
  | lf
  | nd (l : Tr α) (v : Option α) (r : Tr α)

def Tr.left {α : Type} (t : Tr α) : Tr α := Tr.rec (motive := fun _ => Tr α) .lf (fun l _ _ _ _ => l) t
def Tr.right {α : Type} (t : Tr α) : Tr α := Tr.rec (motive := fun _ => Tr α) .lf (fun _ _ r _ _ => r) t
def Tr.val {α : Type} (t : Tr α) : Option α := Tr.rec (motive := fun _ => Option α) none (fun _ v _ _ _ => v) t

def Tr.get {α : Type} (t : Tr α) : Nat → Option α :=
  Tr.rec (motive := fun _ => Nat → Option α) (fun _ => none)
    (fun _ v _ gl gr k => Nat.rec (motive := fun _ => Option α) v (fun k' _ => Bool.rec (motive := fun _ => Option α) (gr (Nat.div k' 2)) (gl (Nat.div k' 2)) (Nat.beq (Nat.mod k' 2) 0)) k) t

def Tr.set {α : Type} (b : α) (n : Nat) : Tr α → Nat → Tr α :=
  Nat.rec (motive := fun _ => Tr α → Nat → Tr α) (fun t _ => t)
    (fun _ ih t k => Nat.rec (motive := fun _ => Tr α) (.nd t.left (some b) t.right)
      (fun k' _ => Bool.rec (motive := fun _ => Tr α) (.nd t.left t.val (ih t.right (Nat.div k' 2))) (.nd (ih t.left (Nat.div k' 2)) t.val t.right) (Nat.beq (Nat.mod k' 2) 0)) k) n

abbrev TH := Tr SBlk

/-- what a run is about -/
structure Ctx where
  P : Program
  lo : Int
  hi : Int
  spec : Nat → List SV → TH → Nat → Option (SV × SUps)
  /-- behind which calls is a row cut, of which their first argument's variable holds a first part alone -/
  cuts : Nat → Bool := fun _ => false

/-- a constant's cell -/
def sabsC : Value → SV
  | .bool b => .bool b
  | .int k n => .int k n
  | .string s => .str s
  | .pointer none => .nilp
  | .slice none 0 0 => .nilsl
  | .map none => .nilmap
  | _ => .any
def sabsV : Value → SV
  | .agg cs => .agg (cs.toList.map sabsC)
  | .tuple vs => .tup (vs.toList.map sabsC)
  | v => sabsC v

/-- slots: a tree, and how many there are -/
structure Sl where
  t : Tr SV
  n : Nat
def Sl.at (s : Sl) (i : Nat) : SV := Bool.rec (motive := fun _ => SV) (.tup []) (Option.rec (motive := fun _ => SV) (.tup []) (fun v => v) (s.t.get i)) (Nat.blt i s.n)
def sEv (ts : Sl) : Operand → SV
  | .tmp t => ts.at t
  | .const v => sabsV v
  | .func f => .fn f [] []
  | .global _ => .any

/-! whole numbers -/
def iNeg : Int → Bool
  | .ofNat _ => false
  | .negSucc _ => true
def iEq : Int → Int → Bool
  | .ofNat m, .ofNat n => Nat.beq m n
  | .negSucc m, .negSucc n => Nat.beq m n
  | _, _ => false
def iIn : Int → Bool
  | .ofNat n => Nat.ble n 9223372036854775807
  | .negSucc n => Nat.ble n 9223372036854775807
/-- is a + b * n below 0, for each n -/
def negQ (lo hi a b : Int) : Option Bool :=
  if a + b * lo < 0 ∧ a + b * hi < 0 then some true else if 0 ≤ a + b * lo ∧ 0 ≤ a + b * hi then some false else none
def zeroQ (lo hi a b : Int) : Option Bool :=
  if a = 0 ∧ b = 0 then some true else
  match negQ lo hi a b with
  | some true => some false
  | _ => match negQ lo hi (-a) (-b) with | some true => some false | _ => none
instance (n : Int) : Decidable (In64 n) := by unfold In64; exact inferInstance
def in64Q (lo hi a b : Int) : Bool := decide (In64 (a + b * lo) ∧ In64 (a + b * hi))

def SI.a : SI → Int
  | .c n => n
  | .l a _ => a
def SI.b : SI → Int
  | .c _ => 0
  | .l _ b => b
def SI.sv : SI → SV
  | .c n => .int .i64 n
  | .l a b => .lin a b
def siEq (lo hi : Int) (x y : SI) : Option Bool :=
  match x, y with
  | .c a, .c b => some (iEq a b)
  | x, y => zeroQ lo hi (x.a - y.a) (x.b - y.b)

def sCells : SV → Option (List SV)
  | .agg cs => some cs
  | .any => none
  | .bq _ _ => none
  | .tup _ => none
  | x => some [x]
def sFlat : SV → Bool
  | .agg _ => false
  | .tup _ => false
  | .any => false
  | _ => true
def sArith (k : IntKind) (n : Int) : Option SV :=
  match k with
  | .i64 => bif iIn n then some (.int .i64 n) else none
  | k => some (.int k (k.wrap n))
def sLin (lo hi a b : Int) : Option SV := bif in64Q lo hi a b then some (.lin a b) else none

def sEqT (d : Option TypeDesc) (x y : SV) : Option Bool :=
  match d, x, y with
  | some .bool, .bool a, .bool b => some (a == b)
  | some (.pointer _), .nilp, .nilp => some true
  | some (.pointer _), .ptr _ _ _, .nilp => some false
  | some (.pointer _), .nilp, .ptr _ _ _ => some false
  | some (.map _ _), .mapr _, .nilmap => some false
  | _, _, _ => none
def kEq (k k' : IntKind) : Bool := decide (k = k')

/-- two known numbers of one kind -/
def sInts (op : BinOp) (k : IntKind) (a b : Int) : Option SV :=
  match op with
  | .add => sArith k (a + b)
  | .sub => sArith k (a - b)
  | .mul => sArith k (a * b)
  | .eql => some (.bool (iEq a b))
  | .neq => some (.bool (!iEq a b))
  | .lss => some (.bool (iNeg (a - b)))
  | .geq => some (.bool (!iNeg (a - b)))
  | .gtr => some (.bool (iNeg (b - a)))
  | .leq => some (.bool (!iNeg (b - a)))
  | .quo => bif iEq b 0 then none else sArith k (a.tdiv b)
  | .rem => bif iEq b 0 then none else some (.int k (a.tmod b))
  | .and => some (.int k (bitsOp .and k a b))
  | .or => some (.int k (bitsOp .or k a b))
  | .xor => some (.int k (bitsOp .xor k a b))
  | .andNot => some (.int k (bitsOp .andNot k a b))
  | _ => none
def sShift (op : BinOp) (k : IntKind) (a b : Int) : Option SV :=
  match op with
  | .shl => bif iNeg b then none else some (.int k (k.wrap (a * 2 ^ (min b.toNat k.bits))))
  | .shr => bif iNeg b then none else some (.int k (a.fdiv (2 ^ (min b.toNat k.bits))))
  | _ => none
def isShift : BinOp → Bool
  | .shl => true
  | .shr => true
  | _ => false
def sLins (lo hi : Int) (op : BinOp) (a b a' b' : Int) : Option SV :=
  match op with
  | .add => sLin lo hi (a + a') (b + b')
  | .sub => sLin lo hi (a - a') (b - b')
  | .eql => (zeroQ lo hi (a - a') (b - b')).map fun r => .bool r
  | .neq => (zeroQ lo hi (a - a') (b - b')).map fun r => .bool (!r)
  | .lss => (negQ lo hi (a - a') (b - b')).map fun r => .bool r
  | .geq => (negQ lo hi (a - a') (b - b')).map fun r => .bool (!r)
  | .gtr => (negQ lo hi (a' - a) (b' - b)).map fun r => .bool r
  | .leq => (negQ lo hi (a' - a) (b' - b)).map fun r => .bool (!r)
  | _ => none
def sStrs (op : BinOp) (a b : ByteArray) : Option SV :=
  match op with
  | .eql => some (.bool (a.toList == b.toList))
  | .neq => some (.bool (!(a.toList == b.toList)))
  | _ => none
def sRest (d : Option TypeDesc) (op : BinOp) (x y : SV) : Option SV :=
  match op with
  | .eql => (sEqT d x y).map fun r => .bool r
  | .neq => (sEqT d x y).map fun r => .bool (!r)
  | _ => none
def sIntInt (op : BinOp) (k : IntKind) (a : Int) (k' : IntKind) (b : Int) : Option SV := bif isShift op then sShift op k a b else bif kEq k k' then sInts op k a b else none
def sBin (lo hi : Int) (d : Option TypeDesc) (op : BinOp) (x y : SV) : Option SV :=
  match x, y with
  | .int k a, .int k' b => sIntInt op k a k' b
  | .int k a, .lin a' b' => bif kEq k .i64 then sLins lo hi op a 0 a' b' else none
  | .lin a b, .int k' a' => bif kEq k' .i64 then sLins lo hi op a b a' 0 else none
  | .lin a b, .lin a' b' => sLins lo hi op a b a' b'
  | .str a, .str b => sStrs op a b
  | x, y => sRest d op x y

def sNum : SV → Option SI
  | .int .i64 n => some (.c n)
  | .lin a b => some (.l a b)
  | _ => none
def sEqInts (lo hi : Int) : List SV → List SV → Option Bool
  | [], [] => some true
  | x :: xs, y :: ys =>
    match sNum x, sNum y with
    | some a, some b =>
      match siEq lo hi a b, sEqInts lo hi xs ys with
      | some r, some s => some (r && s)
      | _, _ => none
    | _, _ => none
  | _, _ => none
def sEqS (lo hi : Int) (op : BinOp) (x y : SV) : Option SV :=
  match op, x, y with
  | .eql, .agg xs, .agg ys => (sEqInts lo hi xs ys).map fun r => .bool r
  | .neq, .agg xs, .agg ys => (sEqInts lo hi xs ys).map fun r => .bool (!r)
  | _, _, _ => none
def isAggV : SV → Bool
  | .agg _ => true
  | _ => false
def isSlice : SV → Bool
  | .nilsl => true
  | .emp => true
  | .own _ _ _ _ => true
  | _ => false
def sIsStr (P : Program) (t : TypeId) (x : SV) : Bool := match x with | .agg xs => flatS P t && xs.length == (P.fieldsOf t).size | _ => false
def sNilCmp (P : Program) (op : BinOp) (t : TypeId) (y : Operand) : Bool :=
  match op, y, P.underlying t with
  | .eql, .const (.slice none 0 0), some (.slice _) => true
  | .neq, .const (.slice none 0 0), some (.slice _) => true
  | _, _, _ => false
def sIsEm : SV → Bool
  | .own _ _ len _ => len == 0
  | _ => true
def sIsNil : SV → Bool
  | .nilsl => true
  | _ => false
def sNilRes (op : BinOp) (x : SV) : SV := match op with | .eql => .bq (sIsEm x) (!sIsNil x) | _ => .bq (!sIsNil x) (sIsEm x)
def sBinOp (X : Ctx) (op : BinOp) (t : TypeId) (y : Operand) (a b : SV) : Option SV :=
  bif isSlice a then (bif sNilCmp X.P op t y then some (sNilRes op a) else none)
  else bif isAggV a then (bif sIsStr X.P t a then sEqS X.lo X.hi op a b else none)
  else sBin X.lo X.hi (X.P.underlying t) op a b

def sUn (op : UnOp) (x : SV) : Option SV :=
  match op, x with
  | .neg, .int k n => sArith k (0 - n)
  | .xor, .int k n => some (.int k (bitsOp .xor k (if k.signed then -1 else k.max) n))
  | .not, .bool b => some (.bool (!b))
  | _, _ => none
def sUnL (lo hi : Int) (op : UnOp) (x : SV) : Option SV :=
  match op, x with
  | .neg, .lin a b => sLin lo hi (0 - a) (0 - b)
  | op, x => sUn op x
def isU : SV → Bool
  | .tup [] => true
  | _ => false
/-- values of a form that 'pick' takes in either place -/
def sameForm : SV → SV → Bool
  | .int k _, .int k' _ => kEq k k'
  | .int k _, .lin _ _ => kEq k .i64
  | .int k _, .opq => kEq k .i64
  | .lin _ _, .int k _ => kEq k .i64
  | .opq, .int k _ => kEq k .i64
  | _, _ => true
def sPick (c a b : SV) : Option SV :=
  match c with
  | .bool true => bif isU a then none else bif sameForm a b then some a else none
  | .bool false => bif isU a then some b else bif isU b then none else bif sameForm a b then some b else none
  | _ => none
def sConvI (lo hi : Int) (k : IntKind) (x : SV) : Option SV :=
  match x with
  | .int _ n => some (.int k (k.wrap n))
  | .lin a b => bif kEq k .i64 then sLin lo hi a b else none
  | _ => none
def sMM (mx : Bool) (x y : SV) : Option SV :=
  match x, y with
  | .int k a, .int _ b => some (.int k (if mx then (if b > a then b else a) else (if b < a then b else a)))
  | _, _ => none

def sCst (k : Kd) (v : SV) : Bool :=
  match k, v with
  | .int kk, .int k' _ => kEq k' kk
  | .int kk, .lin _ _ => kEq .i64 kk
  | .int kk, .opq => kEq .i64 kk
  | .bool, .bool _ => true
  | .str, .str _ => true
  | .slc, .own _ _ _ _ => true
  | .slc, .nilsl => true
  | .slc, .emp => true
  | .raw, _ => true
  | _, _ => false
def sCsts : List Kd → List SV → Bool
  | [], [] => true
  | k :: ks, v :: vs => sCst k v && sCsts ks vs
  | _, _ => false
/-- the n-th one -/
def nthL {α : Type} (l : List α) : Nat → Option α :=
  List.rec (motive := fun _ => Nat → Option α) (fun _ => none) (fun x _ ih n => Nat.rec (motive := fun _ => Option α) (some x) (fun m _ => ih m) n) l
def setL {α : Type} (y : α) (l : List α) : Nat → List α :=
  List.rec (motive := fun _ => Nat → List α) (fun _ => []) (fun x r ih n => Nat.rec (motive := fun _ => List α) (y :: r) (fun m _ => x :: ih m) n) l
def sOne (k : Kd) (x : List SV) (o : Nat) : Option SV :=
  match nthL x o with | some v => bif sCst k v then some v else none | none => none
def sLoadK (ag : Bool) (ks : List Kd) (x : List SV) (o : Nat) : Option SV :=
  match ag, ks with
  | true, ks => let y := (x.drop o).take ks.length; bif sCsts ks y then some (.agg y) else none
  | false, [k] => sOne k x o
  | _, _ => none
def sLoad (ag : Bool) (ks : List Kd) (k e o : Nat) (h : TH) : Option SV :=
  match h.get k with
  | some (.row _ _ es) => match nthL es e with | some x => sLoadK ag ks x o | none => none
  | _ => none
def xLoad (X : Ctx) (t : TypeId) (p : SV) (h : TH) : Option SV :=
  match tyOf X.P t, p with
  | some (ag, n + 1), .ptr k e o => sLoad ag (kindsOf X.P t (n + 1)) k e o h
  | _, _ => none
def sSplice (l : List SV) (o : Nat) (cs : List SV) : List SV := l.take o ++ (cs ++ l.drop (o + cs.length))
def isVec : Tag → Bool
  | .vec => true
  | _ => false
def sStore (n : Nat) (k e o : Nat) (v : SV) (h : TH) : Option SUps :=
  match h.get k, sCells v with
  | some (.row tag z es), some cs =>
    match nthL es e with
    | some x => bif (!isVec tag) && cs.all sFlat && Nat.beq cs.length n && Nat.ble (o + n) x.length then some [(k, .row tag z (setL (sSplice x o cs) es e))] else none
    | none => none
  | _, _ => none
def xStore (X : Ctx) (t : TypeId) (p v : SV) (h : TH) : Option SUps :=
  match (X.P.info? t).map (·.size), p with
  | some n, .ptr k e o => sStore n k e o v h
  | _, _ => none

def sNewVar (d : Nat) (cs : List SV) (h : TH) : Option (SV × SUps) := match h.get d with | none => some (.ptr d 0 0, [(d, .row .var cs.length [cs])]) | some _ => none
def sZero (P : Program) (t : TypeId) : Option (List SV) := ((P.info? t).bind (·.zero)).map fun z => z.cells.toList.map sabsC
def xAlloc (X : Ctx) (d : Nat) (t : TypeId) (h : TH) : Option (SV × SUps) := match sZero X.P t with | some zs => sNewVar d zs h | none => none
def xBox (d : Nat) (v : SV) (h : TH) : Option (SV × SUps) := match sCells v with | some cs => sNewVar d cs h | none => none
def sFill (place : Nat → Option (Nat × Nat)) (cells : List SV) : List (Nat × SV) → Option (List SV)
  | [] => some cells
  | (i, v) :: rest =>
    match place i, sCells v with
    | some (off, size), some cs => bif Nat.beq cs.length size && Nat.ble (off + size) cells.length then sFill place (sSplice cells off cs) rest else none
    | _, _ => none
def sBuild (P : Program) (t : TypeId) (parts : List (Nat × SV)) : Option (List SV) :=
  match P.underlying t, sZero P t with
  | some (.struct fs), some zs =>
    match fieldPlaces P fs.toList with
    | some pl => sFill (nthL pl) zs parts
    | none => none
  | some (.array _ e), some zs =>
    match P.info? e with
    | some i => sFill (fun k => some (k * i.size, i.size)) zs parts
    | none => none
  | _, _ => none
def xBuild (X : Ctx) (t : TypeId) (parts : List (Nat × SV)) : Option (SV × SUps) := match sBuild X.P t parts with | some cs => some (.agg cs, []) | none => none
def sCellsOf (a : SV) : List SV := (sCells a).getD []
def sOk (n : Nat) (a : SV) : Bool := match sCells a with | some cs => Nat.beq cs.length n | none => false
def sBsl (d sz : Nat) (parts : List SV) (h : TH) : Option (SV × SUps) :=
  match h.get d with
  | none => bif parts.all (sOk sz) then some (.own d 0 parts.length false, [(d, .row .lone sz (parts.map sCellsOf))]) else none
  | some _ => none
/-- an element type's cells, bytes and zero -/
def sElem (P : Program) (e : TypeId) : Option (Nat × Nat × List SV) :=
  match P.info? e with
  | some inf =>
    match inf.zero with
    | some z => if z.cells.size = inf.size ∧ 0 < inf.bytes then some (inf.size, inf.bytes, z.cells.toList.map sabsC) else none
    | none => none
  | none => none
def sElemT (P : Program) (t : TypeId) : Option (Nat × Nat × List SV) :=
  match P.underlying t with
  | some (.slice e) => sElem P e
  | _ => none
def xBsl (X : Ctx) (d : Nat) (t : TypeId) (len : Nat) (ix : List Nat) (parts : List SV) (h : TH) : Option (SV × SUps) :=
  match sElemT X.P t with
  | some (sz, _, _) => if ix = List.range len ∧ len * sz ≤ 16777216 then sBsl d sz parts h else none
  | none => none
def iLt (n : Int) (m : Nat) : Bool := match n with | .ofNat k => Nat.blt k m | .negSucc _ => false
def sIdxOwn (sz k off len : Nat) (n : Int) (h : TH) : Option SV :=
  match h.get k with
  | some (.row _ z es) => bif iLt n len && Nat.blt (off + n.toNat) es.length && Nat.beq z sz then some (.ptr k (off + n.toNat) 0) else none
  | _ => none
def xIdxS (sz : Nat) (x i : SV) (h : TH) : Option SV :=
  match x, i with
  | .own k off len _, .int _ n => sIdxOwn sz k off len n h
  | _, _ => none
def xIdxA (m sz : Nat) (x i : SV) : Option SV :=
  match x, i with
  | .ptr k el o, .int _ n => bif iLt n m then some (.ptr k el (o + n.toNat * sz)) else none
  | _, _ => none
def xIdx (X : Ctx) (t : TypeId) (x i : SV) (h : TH) : Option SV :=
  match X.P.underlying t with
  | some (.slice e) => (match (X.P.info? e).map (·.size) with | some sz => xIdxS sz x i h | none => none)
  | some (.array m e) => (match (X.P.info? e).map (·.size) with | some sz => xIdxA m sz x i | none => none)
  | _ => none
def sOptI (d : Int) : Option SV → Option Int
  | none => some d
  | some (.int _ n) => some n
  | _ => none
def sSlE (lo hi mx : Option SV) : Option SV :=
  match sOptI 0 lo, sOptI 0 hi with
  | some l, some u =>
    bif iEq l 0 && iEq u 0 then
      match mx with
      | some (.int _ m) => bif iEq m 0 && hi.isSome then some .emp else none
      | _ => none
    else none
  | _, _ => none
def sSlOwn (sz k off len : Nat) (tg : Bool) (lo hi mx : Option SV) (h : TH) : Option SV :=
  match h.get k, sOptI 0 lo, sOptI len hi with
  | some (.row _ z es), some l, some u =>
    match mx with
    | none =>
      if tg then (if 0 ≤ l ∧ l ≤ u ∧ u = len ∧ z = sz then some (.own k (off + l.toNat) (u.toNat - l.toNat) true) else none)
      else (if 0 ≤ l ∧ l ≤ u ∧ (u ≤ len ∨ off + u ≤ es.length) ∧ z = sz then some (.own k (off + l.toNat) (u.toNat - l.toNat) false) else none)
    | some (.int _ m) =>
      if 0 ≤ l ∧ l ≤ u ∧ u = m ∧ (m ≤ len ∨ (tg = false ∧ off + m ≤ es.length)) ∧ z = sz ∧ hi.isSome = true then some (.own k (off + l.toNat) (u.toNat - l.toNat) true) else none
    | _ => none
  | _, _, _ => none
def xSlice (X : Ctx) (t : TypeId) (x : SV) (lo hi mx : Option SV) (h : TH) : Option SV :=
  match X.P.underlying t with
  | some (.slice e) =>
    match X.P.info? e with
    | some inf =>
      match x with
      | .own k off len tg => sSlOwn inf.size k off len tg lo hi mx h
      | .nilsl => sSlE lo hi mx
      | .emp => sSlE lo hi mx
      | _ => none
    | none => none
  | _ => none

/-- are two keys the same -/
def sKeyEq (lo hi : Int) : SKey → SKey → Option Bool
  | .i a, .i b => siEq lo hi a b
  | .s x, .s y => some (decide (x = y))
  | .p a b, .p c d =>
    match siEq lo hi a c, siEq lo hi b d with
    | some r, some s => some (r && s)
    | _, _ => none
  | _, _ => some false
def SKey.kd : SKey → Nat
  | .i _ => 0
  | .s _ => 1
  | .p _ _ => 2
def sKeyOf : SV → Option SKey
  | .int .i64 n => some (.i (.c n))
  | .lin a b => some (.i (.l a b))
  | .str s => some (.s s)
  | .agg [x, y] => match sNum x, sNum y with | some a, some b => some (.p a b) | _, _ => none
  | _ => none
def SKey.sv : SKey → SV
  | .i x => x.sv
  | .s x => .str x
  | .p x y => .agg [x.sv, y.sv]
/-- none: that isn't known -/
def sGet (lo hi : Int) (k : SKey) : SEnts → Option (Option SV)
  | [] => some none
  | x :: r => match sKeyEq lo hi x.1 k with | some true => some (some x.2.1) | some false => sGet lo hi k r | none => none
def sPut (lo hi : Int) (k : SKey) (v : SV) (c : Nat) : SEnts → Option SEnts
  | [] => some [(k, v, c)]
  | x :: r => match sKeyEq lo hi x.1 k with
    | some true => some ((x.1, v, x.2.2) :: r)
    | some false => (sPut lo hi k v c r).map fun r => x :: r
    | none => none
def sLk (ok : Bool) (v : SV) (b : Bool) : SV := bif ok then .tup [v, .bool b] else v
def sCoerce (ag : Bool) (ks : List Kd) (a : SV) : Bool :=
  match ag, ks with
  | true, ks => match a with | .agg l => sCsts ks l | _ => false
  | false, [k] => sCst k a
  | _, _ => false
def sLookup (lo hi : Int) (ok : Bool) (kd : Nat) (ag : Bool) (ks : List Kd) (zero m k : SV) (h : TH) : Option SV :=
  match sKeyOf k with
  | some key =>
    if key.kd = kd then
      match m with
      | .nilmap => some (sLk ok zero false)
      | .mapr r =>
        match h.get r with
        | some (.mapl kd' es _) =>
          if kd' = kd then
            match sGet lo hi key es with
            | some q => if sCoerce ag ks (q.getD zero) then some (sLk ok (q.getD zero) q.isSome) else none
            | none => none
          else none
        | _ => none
      | _ => none
    else none
  | none => none
def sMapUpd (lo hi : Int) (kd : Nat) (m k v : SV) (h : TH) : Option SUps :=
  match sKeyOf k, m with
  | some key, .mapr r =>
    match h.get r with
    | some (.mapl kd' es c) =>
      if key.kd = kd ∧ kd' = kd then
        match sGet lo hi key es, sPut lo hi key v c es with
        | some q, some es' => some [(r, .mapl kd es' (if q.isSome then c else c + 1))]
        | _, _ => none
      else none
    | _ => none
  | _, _ => none
def sMapTy (P : Program) (t : TypeId) : Option (Nat × Option SV) :=
  match P.underlying t with
  | some (.map k e) =>
    match kindOf P k with
    | some kd => some (kd, ((P.info? e).bind (·.zero)).map sabsV)
    | none => none
  | _ => none
def xLookup (X : Ctx) (t : TypeId) (m k : SV) (ok : Bool) (h : TH) : Option SV :=
  match sMapTy X.P t with
  | some (kd, some z) => sLookup X.lo X.hi ok kd (elTy X.P t).1 (kindsOf X.P (elTy X.P t).2.2 (elTy X.P t).2.1) z m k h
  | _ => none
def xMapUpd (X : Ctx) (t : TypeId) (m k v : SV) (h : TH) : Option SUps := match sMapTy X.P t with | some (kd, _) => sMapUpd X.lo X.hi kd m k v h | none => none
def xMakeMap (X : Ctx) (d : Nat) (t : TypeId) (h : TH) : Option (SV × SUps) := match sMapTy X.P t, h.get d with | some (kd, _), none => some (.mapr d, [(d, .mapl kd [] 0)]) | _, _ => none

def sSrc (x : SV) (sz : Nat) (h : TH) : Option (List (List SV)) :=
  match x with
  | .nilsl => some []
  | .emp => some []
  | .own k off len _ => match h.get k with | some (.row _ z es) => bif Nat.beq z sz && Nat.ble (off + len) es.length then some ((es.drop off).take len) else none | _ => none
  | _ => none
def sAppNew (d sz bytes : Nat) (x s : SV) (h : TH) : Option (SV × SUps) :=
  match sSrc x sz h, sSrc s sz h, h.get d with
  | some old, some new, none =>
    if (old = [] ∨ 0 < new.length) ∧ (old.length + new.length) * bytes ≤ 140737488355328 then
      some (.own d 0 (old.length + new.length) false, [(d, .row .lone sz (old ++ new))])
    else none
  | _, _, _ => none
def isVar : Tag → Bool
  | .var => true
  | _ => false
def sAppEnd (d sz bytes : Nat) (k off len : Nat) (s : SV) (h : TH) : Option (SV × SUps) :=
  match h.get k, sSrc s sz h, h.get d with
  | some (.row tag z es), some new, none =>
    bif Nat.beq (off + len) es.length && (!isVar tag) && Nat.beq z sz && new.all (fun x => x.all sFlat) && Nat.ble ((len + new.length) * bytes) 140737488355328 then
      some (.own d 0 (len + new.length) false, [(k, .dead), (d, .row tag sz (es.drop off ++ new))])
    else none
  | _, _, _ => none
def sLen (x : SV) (h : TH) : Option SV :=
  match x with
  | .nilsl => some (.int .i64 0)
  | .emp => some (.int .i64 0)
  | .own k _ len _ => match h.get k with | some (.row _ _ _) => some (.int .i64 len) | _ => none
  | .nilmap => some (.int .i64 0)
  | .mapr k => match h.get k with | some (.mapl _ es _) => some (.int .i64 es.length) | _ => none
  | .str s => some (.int .i64 s.size)
  | _ => none
def sClear (zs : List SV) (x : SV) (h : TH) : Option SUps :=
  match x with
  | .nilsl => some []
  | .emp => some []
  | .own k off len _ =>
    match h.get k with
    | some (.row .lone z es) => if z = zs.length ∧ off + len ≤ es.length ∧ zs.all sFlat = true then some [(k, .row .lone z (es.take off ++ List.replicate len zs ++ es.drop (off + len)))] else none
    | _ => none
  | _ => none
def sMake (d : Nat) (zs : List SV) (bytes : Nat) (l c : SV) (h : TH) : Option (SV × SUps) :=
  match l, c, h.get d with
  | .int .i64 n, .int .i64 m, none =>
    if 0 ≤ n ∧ n ≤ m ∧ m ≤ 9223372036854775807 ∧ bytes * m ≤ 281474976710656 ∧ 0 < zs.length then some (.own d 0 n.toNat false, [(d, .row .lone zs.length (List.replicate n.toNat zs))]) else none
  | _, _, _ => none
def xMake (X : Ctx) (d : Nat) (t : TypeId) (l c : SV) (h : TH) : Option (SV × SUps) := match sElemT X.P t with | some (_, by_, zs) => sMake d zs by_ l c h | none => none

def up (v : Option SV) : Option (SV × SUps) := match v with | some v => some (v, []) | none => none
def upU (u : Option SUps) : Option (SV × SUps) := match u with | some u => some (.tup [], u) | none => none

/-- which types 'len' takes here -/
def lenTy (P : Program) (t : TypeId) (x : SV) : Bool :=
  match P.underlying t, x with
  | some (.slice _), .nilsl => true
  | some (.slice _), .emp => true
  | some (.slice _), .own _ _ _ _ => true
  | some .string, .str _ => true
  | some (.map _ _), .nilmap => true
  | some (.map _ _), .mapr _ => true
  | _, _ => false
def xAppend (X : Ctx) (d : Nat) (t u : TypeId) (x s : SV) (h : TH) : Option (SV × SUps) :=
  match sElemT X.P t, X.P.underlying u with
  | some (sz, by_, _), some (.slice _) =>
    match x with
    | .own k off len false => sAppEnd d sz by_ k off len s h
    | .own k off len true => sAppNew d sz by_ (.own k off len true) s h
    | .nilsl => sAppNew d sz by_ .nilsl s h
    | .emp => sAppNew d sz by_ .emp s h
    | _ => none
  | _, _ => none
def sBuiltin (X : Ctx) (d : Nat) (b : Builtin) (ts : List TypeId) (args : List SV) (h : TH) : Option (SV × SUps) :=
  match b, ts, args with
  | .len, [t], [x] => bif lenTy X.P t x then up (sLen x h) else none
  | .append, [t, u], [x, s] => xAppend X d t u x s h
  | .max, [_, _], [x, y] => up (sMM true x y)
  | .min, [_, _], [x, y] => up (sMM false x y)
  | .clear, [t], [x] => match sElemT X.P t with | some (_, _, zs) => upU (sClear zs x h) | none => none
  | _, _, _ => none
def xConvert (X : Ctx) (src dst : TypeId) (x : SV) : Option SV :=
  match X.P.underlying src, X.P.underlying dst with
  | some _, some (.int k) => sConvI X.lo X.hi k x
  | _, _ => none
/-- where a field lies, of types that have cells -/
def fieldOff (P : Program) (s : TypeId) (f : Nat) : Option Nat :=
  match P.underlying s with
  | some (.struct fs) =>
    match fs[f]? with
    | some fd => match (P.info? fd.type).map (·.size) with | some (_ + 1) => some fd.offset | _ => none
    | none => none
  | _ => none
def xField (X : Ctx) (s : TypeId) (x : SV) (f : Nat) : Option SV :=
  match fieldOff X.P s f, x with
  | some off, .ptr k e o => some (.ptr k e (o + off))
  | _, _ => none
def xIndex (X : Ctx) (t : TypeId) (x i : SV) : Option SV :=
  match X.P.underlying t with
  | some .string => (match x, i with | .str s, .int _ n => bif iLt n s.size then some (.int .u8 (s.data.getD n.toNat 0).toNat) else none | _, _ => none)
  | some (.array n e) => (match tyOf X.P e, x, i with | some (false, 1), .agg xs, .int _ j => bif iLt j n && iLt j xs.length then nthL xs j.toNat else none | _, _, _ => none)
  | _ => none
def xExtract (x : SV) (i : Nat) : Option SV := match x with | .tup vs => nthL vs i | _ => none
def xNil (x : SV) : Option SV := match x with | .ptr k e o => some (.ptr k e o) | .fn f a b => some (.fn f a b) | _ => none

/-- an operation without a call -/
def sOp (X : Ctx) (d : Nat) (ts : Sl) (o : Op) (h : TH) : Option (SV × SUps) :=
  match o with
  | .move x => some (sEv ts x, [])
  | .assign x => some (sEv ts x, [])
  | .pick c a b => up (sPick (sEv ts c) (sEv ts a) (sEv ts b))
  | .alloc t => xAlloc X d t h
  | .box _ x => xBox d (sEv ts x) h
  | .build t parts => xBuild X t (parts.toList.map fun p => (p.1, sEv ts p.2))
  | .buildSlice t len parts => xBsl X d t len (parts.toList.map (·.1)) (parts.toList.map fun p => sEv ts p.2) h
  | .load t p => up (xLoad X t (sEv ts p) h)
  | .store t p x => upU (xStore X t (sEv ts p) (sEv ts x) h)
  | .nilCheck x => up (xNil (sEv ts x))
  | .binOp op t x y _ => up (sBinOp X op t y (sEv ts x) (sEv ts y))
  | .unOp op _ x => up (sUnL X.lo X.hi op (sEv ts x))
  | .convert src dst x => up (xConvert X src dst (sEv ts x))
  | .makeFunc (.func f) first captured => some (.fn f (first.toList.map (sEv ts)) (captured.toList.map (sEv ts)), [])
  | .makeMap t none => xMakeMap X d t h
  | .makeSlice t l c => xMake X d t (sEv ts l) (sEv ts c) h
  | .slice t x lo hi mx => up (xSlice X t (sEv ts x) (lo.map (sEv ts)) (hi.map (sEv ts)) (mx.map (sEv ts)) h)
  | .fieldAddr s x f => up (xField X s (sEv ts x) f)
  | .indexAddr t x i => up (xIdx X t (sEv ts x) (sEv ts i) h)
  | .index t x i => up (xIndex X t (sEv ts x) (sEv ts i))
  | .lookup t m k ok => up (xLookup X t (sEv ts m) (sEv ts k) ok h)
  | .mapUpdate t m k x => upU (xMapUpd X t (sEv ts m) (sEv ts k) (sEv ts x) h)
  | .insert t m k x => upU (xMapUpd X t (sEv ts m) (sEv ts k) (sEv ts x) h)
  | .extract x i => up (xExtract (sEv ts x) i)
  | .call { callee := .builtin b, args, argTypes } => sBuiltin X d b argTypes.toList (args.toList.map (sEv ts)) h
  | _ => none

/-! the same, worked out once for each operand and operation of the program -/
structure EvF where
  run : Sl → SV
def mkEv : Operand → EvF
  | .tmp t => ⟨fun ts => ts.at t⟩
  | .const v => ⟨fun _ => sabsV v⟩
  | .func f => ⟨fun _ => .fn f [] []⟩
  | .global _ => ⟨fun _ => .any⟩
def sEvF (ts : Sl) (x : Operand) : SV := (mkEv x).run ts
theorem sEvF_eq : sEvF = sEv := by funext ts x; cases x <;> rfl
structure OpF where
  run : Ctx → Nat → Sl → TH → Option (SV × SUps)
def mkOp (o : Op) : OpF :=
  match o with
  | .move x => ⟨fun _ _ ts _ => some (sEvF ts x, [])⟩
  | .assign x => ⟨fun _ _ ts _ => some (sEvF ts x, [])⟩
  | .pick c a b => ⟨fun _ _ ts _ => up (sPick (sEvF ts c) (sEvF ts a) (sEvF ts b))⟩
  | .alloc t => ⟨fun X d _ h => xAlloc X d t h⟩
  | .box _ x => ⟨fun _ d ts h => xBox d (sEvF ts x) h⟩
  | .build t parts => ⟨fun X _ ts _ => xBuild X t (parts.toList.map fun p => (p.1, sEvF ts p.2))⟩
  | .buildSlice t len parts => ⟨fun X d ts h => xBsl X d t len (parts.toList.map (·.1)) (parts.toList.map fun p => sEvF ts p.2) h⟩
  | .load t p => ⟨fun X _ ts h => up (xLoad X t (sEvF ts p) h)⟩
  | .store t p x => ⟨fun X _ ts h => upU (xStore X t (sEvF ts p) (sEvF ts x) h)⟩
  | .nilCheck x => ⟨fun _ _ ts _ => up (xNil (sEvF ts x))⟩
  | .binOp op t x y _ => ⟨fun X _ ts _ => up (sBinOp X op t y (sEvF ts x) (sEvF ts y))⟩
  | .unOp op _ x => ⟨fun X _ ts _ => up (sUnL X.lo X.hi op (sEvF ts x))⟩
  | .convert src dst x => ⟨fun X _ ts _ => up (xConvert X src dst (sEvF ts x))⟩
  | .makeFunc (.func f) first captured => ⟨fun _ _ ts _ => some (.fn f (first.toList.map (sEvF ts)) (captured.toList.map (sEvF ts)), [])⟩
  | .makeMap t none => ⟨fun X d _ h => xMakeMap X d t h⟩
  | .makeSlice t l c => ⟨fun X d ts h => xMake X d t (sEvF ts l) (sEvF ts c) h⟩
  | .slice t x lo hi mx => ⟨fun X _ ts h => up (xSlice X t (sEvF ts x) (lo.map (sEvF ts)) (hi.map (sEvF ts)) (mx.map (sEvF ts)) h)⟩
  | .fieldAddr s x f => ⟨fun X _ ts _ => up (xField X s (sEvF ts x) f)⟩
  | .indexAddr t x i => ⟨fun X _ ts h => up (xIdx X t (sEvF ts x) (sEvF ts i) h)⟩
  | .index t x i => ⟨fun X _ ts _ => up (xIndex X t (sEvF ts x) (sEvF ts i))⟩
  | .lookup t m k ok => ⟨fun X _ ts h => up (xLookup X t (sEvF ts m) (sEvF ts k) ok h)⟩
  | .mapUpdate t m k x => ⟨fun X _ ts h => upU (xMapUpd X t (sEvF ts m) (sEvF ts k) (sEvF ts x) h)⟩
  | .insert t m k x => ⟨fun X _ ts h => upU (xMapUpd X t (sEvF ts m) (sEvF ts k) (sEvF ts x) h)⟩
  | .extract x i => ⟨fun _ _ ts _ => up (xExtract (sEvF ts x) i)⟩
  | .call { callee := .builtin b, args, argTypes } => ⟨fun X d ts h => sBuiltin X d b argTypes.toList (args.toList.map (sEvF ts)) h⟩
  | _ => ⟨fun _ _ _ _ => none⟩
def sOpF (X : Ctx) (d : Nat) (ts : Sl) (o : Op) (h : TH) : Option (SV × SUps) := (mkOp o).run X d ts h
theorem sOpF_eq : sOpF = sOp := by
  funext X d ts o h
  unfold sOpF mkOp sOp
  rw [sEvF_eq]
  split <;> rfl

/-- operations that may end in several ways -/
def nxRange (P : Program) (d : Nat) (t : TypeId) (x : SV) (h : TH) : Option (List (SV × SUps)) :=
  match P.underlying t, x, h.get d with
  | some (.map _ _), .mapr k, none =>
    match h.get k with
    | some (.mapl _ _ c) => some [(.it d, [(d, .itl (.mapr k) c [] c)])]
    | _ => none
  | some (.map _ _), .nilmap, none => some [(.it d, [(d, .itl .nilmap 0 [] 0)])]
  | _, _, _ => none
def nxNext (i : Nat) (h : TH) : Option (List (SV × SUps)) :=
  match h.get i with
  | some (.itl .nilmap _ _ _) => some [(.tup [.bool false], [])]
  | some (.itl (.mapr k) since seen last) =>
    match h.get k with
    | some (.mapl _ es c) =>
      if (es.all fun e => decide (e.2.2 < since)) = true ∧ since ≤ last then
        some (match es.filter fun e => !seen.contains e.2.2 with
          | [] => [(.tup [.bool false], [])]
          | l => l.map fun e => (.tup [.bool true, e.1.sv, e.2.1], [(i, .itl (.mapr k) since (seen ++ [e.2.2]) c)]))
      else none
    | _ => none
  | _ => none
def nxEntry (i : Nat) (h : TH) : Option (List (SV × SUps)) :=
  match h.get i with
  | some (.itl (.mapr k) _ seen last) =>
    match h.get k, seen.getLast? with
    | some (.mapl _ es c), some s =>
      match es.find? (fun e => e.2.2 == s) with
      | some e => if c = last then some [(.tup [e.1.sv, e.2.1], [])] else none
      | none => none
    | _, _ => none
  | _ => none
def isNx : Op → Bool
  | .range _ _ => true
  | .next _ _ => true
  | .entry _ => true
  | _ => false
def sNx (P : Program) (d : Nat) (ts : Sl) (o : Op) (h : TH) : Option (List (SV × SUps)) :=
  match o with
  | .range t x => nxRange P d t (sEv ts x) h
  | .next x false => (match sEv ts x with | .it i => nxNext i h | _ => none)
  | .entry x => (match sEv ts x with | .it i => nxEntry i h | _ => none)
  | _ => none

end

end Go.Dm
