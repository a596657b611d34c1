/-
  What each operation does to abstract values (without memory), and that the model does the same.
  Conditions: none (definitions and plain lemmas).
-/
import Derived.Test.YtbhlfbkheijojaaEng2
import Derived.Laws.CopyRow
import Derived.Laws.AppendOwn
import Derived.Laws.Entries
namespace Go.Dm

/-- a value that may not be there: 'dom' is what must be shown -/
structure PV (α : Type) where
  dom : Prop
  val : α

def PV.run {α : Type} (r : PV α) (K : α → Prop) : Prop := r.dom ∧ K r.val

abbrev Ups := List (Nat × Blk)

def noV : PV AV := ⟨False, .any⟩

/-- a constant's cell -/
def absC : Value → AV
  | .bool b => .t (.bool b)
  | .int k n => .t (.int k n)
  | .string s => .t (.str s)
  | .pointer none => .t .nilp
  | .slice none 0 0 => .nils
  | .map none => .t .nilmap
  | _ => .any

def absV : Value → AV
  | .agg cs => .agg (cs.toList.map absC)
  | .tuple vs => .tup (vs.toList.map absC)
  | v => absC v

theorem AR.absC (ρ : Inj) (F : Fz) (w : World) (v : Value) : AR ρ F w v (absC v) := by
  unfold Dm.absC
  split
  · exact .t (.bool _)
  · exact .t (.int _ _)
  · exact .t (.str _)
  · exact .t .nilp
  · exact .nils
  · exact .t .nilmap
  · exact .any _

theorem AR.absV (ρ : Inj) (F : Fz) (w : World) (v : Value) : AR ρ F w v (absV v) := by
  unfold Dm.absV
  split
  · refine .agg (by simp) fun i v a h1 h2 => ?_
    simp only [List.getElem?_map, Array.getElem?_toList, h1, Option.map_some, Option.some.injEq] at h2
    exact h2 ▸ AR.absC ρ F w v
  · refine .tup (by simp) fun i v a h1 h2 => ?_
    simp only [List.getElem?_map, Array.getElem?_toList, h1, Option.map_some, Option.some.injEq] at h2
    exact h2 ▸ AR.absC ρ F w v
  · exact AR.absC ρ F w _

/-- an operand -/
def evO (ts : List AV) : Operand → AV
  | .tmp t => ts.getD t (.tup [])
  | .const v => absV v
  | .func f => .fn f [] []
  | .global _ => .any

theorem AR.evO {ρ : Inj} {F : Fz} {w : World} {a : Act} {ts : List AV} (h : ValsAR ρ F w a.tmps ts) (x : Operand) : AR ρ F w (a.eval x) (evO ts x) := by
  cases x with
  | tmp t =>
    show AR ρ F w (a.tmps.getD t undef) (ts.getD t (.tup []))
    rcases Nat.lt_or_ge t ts.length with hlt | hge
    · have h1 : t < a.tmps.size := by rw [h.1]; exact hlt
      have e1 : a.tmps.getD t undef = a.tmps[t] := by simp [Array.getD, h1]
      have e2 : ts.getD t (.tup []) = ts[t] := by simp [List.getD, hlt]
      rw [e1, e2]
      exact h.2 t _ _ (by simp [h1]) (by simp [hlt])
    · have h1 : a.tmps.size ≤ t := by rw [h.1]; exact hge
      have e1 : a.tmps.getD t undef = undef := by simp [Array.getD, Nat.not_lt.2 h1]
      have e2 : ts.getD t (.tup []) = .tup [] := by simp [List.getD, hge]
      rw [e1, e2]
      exact .tup rfl (fun i v a h => by simp at h)
  | const v => exact AR.absV ρ F w v
  | func f => exact .fn rfl (fun i v a h => by simp at h) rfl (fun i v a h => by simp at h)
  | global g => exact .any _

/-- the cells of a value -/
def avCells : AV → Option (List AV)
  | .agg cs => some cs
  | .any => none
  | .bq _ _ => none
  | .tup _ => none
  | x => some [x]

theorem TR.cells1 {F : Fz} {w : World} {v : Value} {x : Tree} (h : TR F w v x) : v.cells = #[v] ∧ v.oneCell' = true := by cases h <;> exact ⟨rfl, rfl⟩

theorem avCells_ar {ρ : Inj} {F : Fz} {w : World} {v : Value} {a : AV} {cs : List AV} (h : AR ρ F w v a) (hc : avCells a = some cs) :
    ValsAR ρ F w v.cells cs := by
  have one : v.cells = #[v] → avCells a = some [a] → ValsAR ρ F w v.cells cs := fun e1 e2 => by
    rw [e2] at hc; cases hc; rw [e1]
    refine ⟨rfl, fun i u b h1 h2 => ?_⟩
    cases i with
    | zero => simp at h1 h2; subst h1; subst h2; exact h
    | succ i => simp at h1
  cases h with
  | t h => exact one h.cells1.1 rfl
  | tsl h => exact one rfl rfl
  | nils => exact one rfl rfl
  | any v => cases hc
  | bq b hp hq => cases hc
  | ptr h => exact one rfl rfl
  | ptrDead v h => exact one rfl rfl
  | eptr vals hb hv ht => exact one rfl rfl
  | own h hl => exact one rfl rfl
  | ownVirt a h => exact one rfl rfl
  | ownZero a h hl hz => exact one rfl rfl
  | ownDead a l c h _ => exact one rfl rfl
  | mapr h => exact one rfl rfl
  | maprDead v h => exact one rfl rfl
  | agg hs h => cases hc; exact ⟨hs, h⟩
  | tup hs h => cases hc
  | fn h1s h1 h2s h2 => exact one rfl rfl
  | it h => exact one rfl rfl
  | itDead v h => exact one rfl rfl

def In64 (n : Int) : Prop := -9223372036854775808 ≤ n ∧ n ≤ 9223372036854775807

theorem wrap_in64 {n : Int} (h : In64 n) : IntKind.i64.wrap n = n := by
  obtain ⟨h1, h2⟩ := h
  have e : (2 : Int) ^ IntKind.i64.bits = 18446744073709551616 := by decide
  have e2 : (2 : Int) ^ (IntKind.i64.bits - 1) = 9223372036854775808 := by decide
  simp only [IntKind.wrap, IntKind.signed, e, e2, Bool.true_and, decide_eq_true_eq]
  split <;> omega

def arith (k : IntKind) (n : Int) : PV AV :=
  match k with
  | .i64 => ⟨In64 n, .t (.int .i64 n)⟩
  | k => ⟨True, .t (.int k (k.wrap n))⟩

def bitsOp (op : BinOp) (k : IntKind) (x y : Int) : Int :=
  let a := BitVec.ofInt k.bits x
  let b := BitVec.ofInt k.bits y
  match op with
  | .and => k.wrap (a &&& b).toNat
  | .or => k.wrap (a ||| b).toNat
  | .xor => k.wrap (a ^^^ b).toNat
  | _ => k.wrap (a &&& ~~~b).toNat

/-- == at a type -/
def eqT (d : Option TypeDesc) (x y : AV) : PV Bool :=
  match d, x, y with
  | some .bool, .t (.bool a), .t (.bool b) => ⟨True, a == b⟩
  | some (.pointer _), .t .nilp, .t .nilp => ⟨True, true⟩
  | some (.pointer _), .ptr _ _ _, .t .nilp => ⟨True, false⟩
  | some (.pointer _), .t .nilp, .ptr _ _ _ => ⟨True, false⟩
  | some (.map _ _), .mapr _, .t .nilmap => ⟨True, false⟩
  | _, _, _ => ⟨False, false⟩

def bv (b : Bool) : AV := .t (.bool b)

def aBin (d : Option TypeDesc) (op : BinOp) (x y : AV) : PV AV :=
  match x, y with
  | .t (.int k a), .t (.int k' b) =>
    match op with
    | .shl => ⟨0 ≤ b, .t (.int k (k.wrap (a * 2 ^ (min b.toNat k.bits))))⟩
    | .shr => ⟨0 ≤ b, .t (.int k (a.fdiv (2 ^ (min b.toNat k.bits))))⟩
    | .add => if k = k' then arith k (a + b) else noV
    | .sub => if k = k' then arith k (a - b) else noV
    | .mul => if k = k' then arith k (a * b) else noV
    | .quo => if k = k' then ⟨b ≠ 0 ∧ (arith k (a.tdiv b)).dom, (arith k (a.tdiv b)).val⟩ else noV
    | .rem => if k = k' then ⟨b ≠ 0, .t (.int k (a.tmod b))⟩ else noV
    | .and => if k = k' then ⟨True, .t (.int k (bitsOp .and k a b))⟩ else noV
    | .or => if k = k' then ⟨True, .t (.int k (bitsOp .or k a b))⟩ else noV
    | .xor => if k = k' then ⟨True, .t (.int k (bitsOp .xor k a b))⟩ else noV
    | .andNot => if k = k' then ⟨True, .t (.int k (bitsOp .andNot k a b))⟩ else noV
    | .eql => if k = k' then ⟨True, bv (a == b)⟩ else noV
    | .neq => if k = k' then ⟨True, bv (a != b)⟩ else noV
    | .lss => if k = k' then ⟨True, bv (decide (a < b))⟩ else noV
    | .leq => if k = k' then ⟨True, bv (decide (a ≤ b))⟩ else noV
    | .gtr => if k = k' then ⟨True, bv (decide (a > b))⟩ else noV
    | .geq => if k = k' then ⟨True, bv (decide (a ≥ b))⟩ else noV
  | .t (.str a), .t (.str b) =>
    match op with
    | .add => ⟨In64 ((a.size + b.size : Nat) : Int), .t (.str (a ++ b))⟩
    | .eql => ⟨True, bv (a.toList == b.toList)⟩
    | .neq => ⟨True, bv (!(a.toList == b.toList))⟩
    | .lss => ⟨True, bv (Op.bytesLess a.toList b.toList)⟩
    | _ => noV
  | x, y =>
    match op with
    | .eql => ⟨(eqT d x y).dom, bv (eqT d x y).val⟩
    | .neq => ⟨(eqT d x y).dom, bv (!(eqT d x y).val)⟩
    | _ => noV

theorem arith_sound {w : World} {ρ : Inj} {F : Fz} (k : IntKind) (n : Int) (h : (arith k n).dom) :
    AR ρ F w (.int k (k.wrap n)) (arith k n).val := by
  cases k <;> first
    | exact .t (.int _ _)
    | (simp only [arith] at h ⊢; rw [wrap_in64 h]; exact .t (.int _ _))

theorem run_guard_int (P : Program) (w : World) (op : BinOp) (t : TypeId) (x y : Operand) (V1 V2 : Value) (h1 : V1 ≠ .nilIface) (h2 : ∀ c, V1 ≠ .agg c) :
    (eqGuard op t x y V1 V2).run P w = .ok () w := by
  unfold eqGuard
  cases op <;> simp
  all_goals
    cases V1 <;> simp_all

theorem TR.not_odd {F : Fz} {w : World} {v : Value} {x : Tree} (h : TR F w v x) : v ≠ .nilIface ∧ ∀ c, v ≠ .agg c := by
  cases h <;> exact ⟨by simp, by simp⟩

theorem aBin_int {P : Program} {w : World} {ρ : Inj} {F : Fz} (d : Option TypeDesc) (op : BinOp) (t : TypeId) (k k' : IntKind) (a b : Int)
    (h : (aBin d op (.t (.int k a)) (.t (.int k' b))).dom) :
    ∃ v, (binOp op t (.int k a) (.int k' b)).run P w = .ok v w ∧ AR ρ F w v (aBin d op (.t (.int k a)) (.t (.int k' b))).val := by
  by_cases hk : k = k'
  · subst hk
    cases op <;> simp only [aBin, if_true, noV] at h ⊢ <;> try exact h.elim
    case add => exact ⟨_, by simp [binOp, Op.intArith], arith_sound k _ h⟩
    case sub => exact ⟨_, by simp [binOp, Op.intArith], arith_sound k _ h⟩
    case mul => exact ⟨_, by simp [binOp, Op.intArith], arith_sound k _ h⟩
    case quo => exact ⟨_, by simp [binOp, Op.intDiv, h.1], arith_sound k _ h.2⟩
    case rem => exact ⟨_, by simp [binOp, Op.intDiv, h], .t (.int _ _)⟩
    case shl => exact ⟨_, by simp [binOp, Op.shift, Int.not_lt.2 h], .t (.int _ _)⟩
    case shr => exact ⟨_, by simp [binOp, Op.shift, Int.not_lt.2 h], .t (.int _ _)⟩
    all_goals exact ⟨_, by simp only [binOp, ne_eq, not_true_eq_false, if_false]; rfl, by first | exact .t (.int _ _) | exact .t (.bool _)⟩
  · cases op <;> simp only [aBin, hk, if_false, noV] at h ⊢ <;> try exact h.elim
    case shl => exact ⟨_, by simp [binOp, Op.shift, Int.not_lt.2 h], .t (.int _ _)⟩
    case shr => exact ⟨_, by simp [binOp, Op.shift, Int.not_lt.2 h], .t (.int _ _)⟩

end Go.Dm
