/-
  More operations on abstract values: strings, ==, unary, conversion, min and max, fields and indexes; the model does the same.
  Conditions: none.
-/
import Derived.Test.YtbhlfbkheijojaaEng3
namespace Go.Dm

theorem equal_eq (t : TypeId) (x y : Value) : Op.equal t x y = Op.equalIn (9999 + 1) t x y := rfl

/-- what == between values at a type comes to -/
theorem eqT_sound {P : Program} {w : World} {ρ : Inj} {F : Fz} {t : TypeId} {x y : AV} {V1 V2 : Value} (h1 : AR ρ F w V1 x) (h2 : AR ρ F w V2 y)
    (hd : (eqT (P.underlying t) x y).dom) :
    (Op.equal t V1 V2).run P w = .ok (eqT (P.underlying t) x y).val w ∧ V1 ≠ .nilIface ∧ (∀ c, V1 ≠ .agg c) ∧
      (∀ op : BinOp, op = .eql ∨ op = .neq → binOp op t V1 V2 = (if op = .eql then (do pure (.bool (← Op.equal t V1 V2))) else (do pure (.bool (!(← Op.equal t V1 V2)))))) := by
  have key : ∀ d, P.underlying t = some d → (underlying t).run P w = .ok d w := fun d hd => run_underlying hd w
  unfold eqT at hd ⊢
  split at hd
  · rename_i a b hu
    cases h1 with | t h1 => cases h2 with | t h2 => cases h1; cases h2; exact ⟨by rw [equal_eq, Op.equalIn]; simp [key _ hu], by simp, by simp, by rintro op (rfl | rfl) <;> rfl⟩
  · rename_i e hu
    cases h1 with | t h1 => cases h2 with | t h2 => cases h1; cases h2; exact ⟨by rw [equal_eq, Op.equalIn]; simp [key _ hu], by simp, by simp, by rintro op (rfl | rfl) <;> rfl⟩
  · rename_i e k e' o hu
    cases h2 with
    | t h2 =>
      cases h2
      cases h1 with
      | ptr h => exact ⟨by rw [equal_eq, Op.equalIn]; simp [key _ hu], by simp, by simp, by rintro op (rfl | rfl) <;> rfl⟩
      | ptrDead a h => exact ⟨by rw [equal_eq, Op.equalIn]; simp [key _ hu], by simp, by simp, by rintro op (rfl | rfl) <;> rfl⟩
  · rename_i e k e' o hu
    cases h1 with
    | t h1 =>
      cases h1
      cases h2 with
      | ptr h => exact ⟨by rw [equal_eq, Op.equalIn]; simp [key _ hu], by simp, by simp, by rintro op (rfl | rfl) <;> rfl⟩
      | ptrDead a h => exact ⟨by rw [equal_eq, Op.equalIn]; simp [key _ hu], by simp, by simp, by rintro op (rfl | rfl) <;> rfl⟩
  · rename_i a b k hu
    cases h2 with
    | t h2 =>
      cases h2
      cases h1 with
      | mapr h => exact ⟨by rw [equal_eq, Op.equalIn]; simp [key _ hu], by simp, by simp, by rintro op (rfl | rfl) <;> rfl⟩
      | maprDead a h => exact ⟨by rw [equal_eq, Op.equalIn]; simp [key _ hu], by simp, by simp, by rintro op (rfl | rfl) <;> rfl⟩
  · exact hd.elim

theorem run_guard_odd (P : Program) (w : World) (op : BinOp) (t : TypeId) (x y : Operand) (V1 V2 : Value) (h : V1 ≠ .nilIface ∧ ∀ c, V1 ≠ .agg c) :
    (eqGuard op t x y V1 V2).run P w = .ok () w := run_guard_int P w op t x y V1 V2 h.1 h.2

theorem aBin_sound {P : Program} {w : World} {ρ : Inj} {F : Fz} {op : BinOp} {t : TypeId} {ox oy : Operand} {x y : AV} {V1 V2 : Value} (h1 : AR ρ F w V1 x) (h2 : AR ρ F w V2 y)
    (hd : (aBin (P.underlying t) op x y).dom) :
    ∃ v, (do eqGuard op t ox oy V1 V2; binOp op t V1 V2 : Sem Value).run P w = .ok v w ∧ AR ρ F w v (aBin (P.underlying t) op x y).val := by
  have ii : ∀ k a k' b, x = .t (.int k a) → y = .t (.int k' b) → ∃ v, (do eqGuard op t ox oy V1 V2; binOp op t V1 V2 : Sem Value).run P w = .ok v w ∧ AR ρ F w v (aBin (P.underlying t) op x y).val := by
    rintro k a k' b rfl rfl
    cases h1 with | t h1 => cases h2 with | t h2 =>
      cases h1; cases h2
      obtain ⟨v, hv, hr⟩ := aBin_int (P := P) (w := w) (ρ := ρ) (F := F) (P.underlying t) op t k k' a b hd
      refine ⟨v, ?_, hr⟩
      simp [run_guard_int, hv]
  have ss : ∀ a b, x = .t (.str a) → y = .t (.str b) → ∃ v, (do eqGuard op t ox oy V1 V2; binOp op t V1 V2 : Sem Value).run P w = .ok v w ∧ AR ρ F w v (aBin (P.underlying t) op x y).val := by
    rintro a b rfl rfl
    cases h1 with | t h1 => cases h2 with | t h2 =>
      cases h1; cases h2
      have hmax : IntKind.i64.max = 9223372036854775807 := by decide
      cases op <;> simp only [aBin, noV] at hd ⊢ <;> try exact hd.elim
      case add =>
        have hn : ¬ ((a.size + b.size : Nat) : Int) > IntKind.i64.max := by rw [hmax]; exact Int.not_lt.2 hd.2
        exact ⟨.string (a ++ b), by simp only [Sem.run_bind, run_guard_int P w .add t ox oy (.string a) (.string b) (by simp) (by simp), Result.andThen_ok]; unfold binOp Op.stringOp; simp only [if_neg hn]; rfl, .t (.str _)⟩
      all_goals exact ⟨_, by simp only [Sem.run_bind, run_guard_int P w _ t ox oy (.string a) (.string b) (by simp) (by simp), Result.andThen_ok]; rfl, .t (.bool _)⟩
  have rest : (∀ k a k' b, ¬ (x = .t (.int k a) ∧ y = .t (.int k' b))) → (∀ a b, ¬ (x = .t (.str a) ∧ y = .t (.str b))) →
      ∃ v, (do eqGuard op t ox oy V1 V2; binOp op t V1 V2 : Sem Value).run P w = .ok v w ∧ AR ρ F w v (aBin (P.underlying t) op x y).val := by
    intro n1 n2
    have e : ∀ op, aBin (P.underlying t) op x y = (match op with
      | .eql => ⟨(eqT (P.underlying t) x y).dom, bv (eqT (P.underlying t) x y).val⟩
      | .neq => ⟨(eqT (P.underlying t) x y).dom, bv (!(eqT (P.underlying t) x y).val)⟩
      | _ => noV) := by
      intro op
      unfold aBin
      split
      · rename_i k a k' b; exact absurd ⟨rfl, rfl⟩ (n1 k a k' b)
      · rename_i a b; exact absurd ⟨rfl, rfl⟩ (n2 a b)
      · rfl
    rw [e] at hd ⊢
    cases op <;> simp only [noV] at hd ⊢ <;> try exact hd.elim
    case eql =>
      obtain ⟨q1, q2, q3, q4⟩ := eqT_sound (P := P) h1 h2 hd
      refine ⟨.bool (eqT (P.underlying t) x y).val, ?_, .t (.bool _)⟩
      simp [run_guard_odd P w _ t ox oy V1 V2 ⟨q2, q3⟩, q4 .eql (.inl rfl), q1]
    case neq =>
      obtain ⟨q1, q2, q3, q4⟩ := eqT_sound (P := P) h1 h2 hd
      refine ⟨.bool (!(eqT (P.underlying t) x y).val), ?_, .t (.bool _)⟩
      simp [run_guard_odd P w _ t ox oy V1 V2 ⟨q2, q3⟩, q4 .neq (.inr rfl), q1]
  cases x with
  | t x =>
    cases x with
    | int k a =>
      cases y with
      | t y =>
        cases y with
        | int k' b => exact ii k a k' b rfl rfl
        | _ => exact rest (by simp) (by simp)
      | _ => exact rest (by simp) (by simp)
    | str a =>
      cases y with
      | t y =>
        cases y with
        | str b => exact ss a b rfl rfl
        | _ => exact rest (by simp) (by simp)
      | _ => exact rest (by simp) (by simp)
    | _ => exact rest (by simp) (by simp)
  | _ => exact rest (by simp) (by simp)

def aUn (op : UnOp) (x : AV) : PV AV :=
  match op, x with
  | .neg, .t (.int k n) => arith k (0 - n)
  | .xor, .t (.int k n) => ⟨True, .t (.int k (bitsOp .xor k (if k.signed then -1 else k.max) n))⟩
  | .not, .t (.bool b) => ⟨True, bv (!b)⟩
  | _, _ => noV

theorem aUn_sound {P : Program} {w : World} {ρ : Inj} {F : Fz} {op : UnOp} {x : AV} {V : Value} (h : AR ρ F w V x) (hd : (aUn op x).dom) :
    ∃ v, (Op.unary op V).run P w = .ok v w ∧ AR ρ F w v (aUn op x).val := by
  unfold aUn at hd ⊢
  split at hd
  · cases h with | t h => cases h; exact ⟨_, rfl, arith_sound _ _ hd⟩
  · cases h with | t h => cases h; exact ⟨_, rfl, .t (.int _ _)⟩
  · cases h with | t h => cases h; exact ⟨_, rfl, .t (.bool _)⟩
  · exact hd.elim

def aPick (c a b : AV) : PV AV :=
  match c with
  | .t (.bool c) =>
    match a, b with
    | .tup [], b => ⟨c = false, b⟩
    | a, .tup [] => ⟨c = true, a⟩
    | .t (.bool x), .t (.bool y) => ⟨True, .t (.bool (bif c then x else y))⟩
    | .t (.int k x), .t (.int k' y) => ⟨k = k', .t (.int k (bif c then x else y))⟩
    | a, b => ⟨True, bif c then a else b⟩
  | _ => noV

theorem aPick_sound {P : Program} {w : World} {ρ : Inj} {F : Fz} {c a b : AV} {V1 V2 V3 : Value} (h1 : AR ρ F w V1 c) (h2 : AR ρ F w V2 a) (h3 : AR ρ F w V3 b) (hd : (aPick c a b).dom) :
    ∃ v, (do pure (.value (if ← asBool V1 then V2 else V3)) : Sem Next).run P w = .ok (.value v) w ∧ AR ρ F w v (aPick c a b).val := by
  unfold aPick at hd ⊢
  split at hd
  · rename_i c
    cases h1 with | t h1 =>
    cases h1
    split at hd
    · simp only at hd ⊢; subst hd; exact ⟨V3, rfl, h3⟩
    · simp only at hd ⊢; subst hd; exact ⟨V2, rfl, h2⟩
    · cases c <;> first | exact ⟨V3, rfl, h3⟩ | exact ⟨V2, rfl, h2⟩
    · simp only at hd ⊢; subst hd; cases c <;> first | exact ⟨V3, rfl, h3⟩ | exact ⟨V2, rfl, h2⟩
    · cases c <;> first | exact ⟨V3, rfl, h3⟩ | exact ⟨V2, rfl, h2⟩
  · exact hd.elim

/-- a whole number of another kind -/
def aConvI (k : IntKind) (x : AV) : PV AV :=
  match x with
  | .t (.int _ n) => ⟨True, .t (.int k (k.wrap n))⟩
  | _ => noV

def aExtract (x : AV) (i : Nat) : PV AV :=
  match x with
  | .tup vs => ⟨i < vs.length, vs.getD i .any⟩
  | _ => noV

theorem aExtract_sound {P : Program} {w : World} {ρ : Inj} {F : Fz} {x : AV} {i : Nat} {V : Value} (h : AR ρ F w V x) (hd : (aExtract x i).dom) :
    ∃ v, (Instr.extract V i).run P w = .ok v w ∧ AR ρ F w v (aExtract x i).val := by
  unfold aExtract at hd ⊢
  split at hd
  · cases h with
    | tup hs h =>
      rename_i vs as
      have hi : i < as.size := by rw [hs]; exact hd
      refine ⟨as[i], by simp [Instr.extract, hi], h i _ _ (by simp [hi]) ?_⟩
      simp only [List.getD, Option.getD]
      split
      · rename_i y hy; exact hy
      · rename_i hy; simp at hy; omega
  · exact hd.elim

/-- min or max -/
def aMM (mx : Bool) (x y : AV) : PV AV :=
  match x, y with
  | .t (.int k a), .t (.int _ b) => ⟨True, .t (.int k (if mx then (if b > a then b else a) else (if b < a then b else a)))⟩
  | _, _ => noV

def aNil (x : AV) : PV AV :=
  match x with
  | .ptr k e o => ⟨True, .ptr k e o⟩
  | .eptr c o => ⟨True, .eptr c o⟩
  | .fn f a b => ⟨True, .fn f a b⟩
  | _ => noV

def aFieldAddr (off : Nat) (x : AV) : PV AV :=
  match x with
  | .ptr k e o => ⟨True, .ptr k e (o + off)⟩
  | .eptr c o => ⟨True, .eptr c (o + off)⟩
  | _ => noV

/-- an element's address: n0: how many, at an array; none: a slice. sz: an element's cells -/
def aIdx (arr : Option Nat) (sz : Nat) (x i : AV) (σ : Heap) : PV AV :=
  match i with
  | .t (.int _ n) =>
    match arr, x with
    | none, .own k off len _ =>
      match σ k with
      | some (.row _ z es) => ⟨0 ≤ n ∧ n < len ∧ off + n.toNat < es.length ∧ z = sz, .ptr k (off + n.toNat) 0⟩
      | _ => noV
    | none, .t (.rows es) => ⟨0 ≤ n ∧ n < es.length ∧ (es.getD n.toNat []).length = sz, .eptr (es.getD n.toNat []) 0⟩
    | none, .tsl es => ⟨0 ≤ n ∧ n < es.length ∧ (es.getD n.toNat []).length = sz, .eptr (es.getD n.toNat []) 0⟩
    | some m, .ptr k e o => ⟨0 ≤ n ∧ n < m, .ptr k e (o + n.toNat * sz)⟩
    | some m, .eptr c o => ⟨0 ≤ n ∧ n < m, .eptr c (o + n.toNat * sz)⟩
    | _, _ => noV
  | _ => noV

end Go.Dm
