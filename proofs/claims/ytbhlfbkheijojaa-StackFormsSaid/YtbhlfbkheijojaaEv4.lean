/-
  Each operation of the machine that can be run is one of the abstract machine.
  Conditions: none.
-/
import Derived.Test.YtbhlfbkheijojaaEv3
namespace Go.Dm

/-- a value that is there -/
def Ok (E : Env) (r : PV AV) (v : SV) : Prop := r.dom ∧ r.val = v.den E
def OkU (E : Env) (r : PV Ups) (u : SUps) : Prop := r.dom ∧ r.val = denU E u
def Ok2 (E : Env) (r : PV (AV × Ups)) (x : SV × SUps) : Prop := r.dom ∧ r.val = (x.1.den E, denU E x.2)

theorem Ok.lift {E : Env} {r : PV AV} {o : Option SV} {x : SV × SUps} (h : ∀ v, o = some v → Ok E r v) (hx : up o = some x) : Ok2 E (Go.Dm.lift r) x := by
  unfold up at hx
  split at hx
  · rename_i v hv
    cases hx
    obtain ⟨h1, h2⟩ := h _ rfl
    exact ⟨h1, by simp [Go.Dm.lift, h2, denU]⟩
  · cases hx
theorem OkU.lift {E : Env} {r : PV Ups} {o : Option SUps} {x : SV × SUps} (h : ∀ v, o = some v → OkU E r v) (hx : upU o = some x) : Ok2 E (Go.Dm.liftU r) x := by
  unfold upU at hx
  split at hx
  · rename_i v hv
    cases hx
    obtain ⟨h1, h2⟩ := h _ rfl
    exact ⟨h1, by simp [Go.Dm.liftU, h2, SV.den, dens]⟩
  · cases hx

theorem cond_some {α : Type} {c : Bool} {x : Option α} {y : α} (h : (bif c then x else none) = some y) : c = true ∧ x = some y := by
  cases c <;> simp_all
theorem cond_some' {α : Type} {c : Bool} {x : Option α} {y : α} (h : (bif c then none else x) = some y) : c = false ∧ x = some y := by
  cases c <;> simp_all

section
variable {X : Ctx} {E : Env} (hlo : X.lo ≤ E.n) (hhi : E.n ≤ X.hi)

theorem sArith_ok {k : IntKind} {n : Int} {v : SV} (h : sArith k n = some v) : Ok E (arith k n) v := by
  unfold sArith at h
  split at h
  · obtain ⟨h1, h2⟩ := cond_some h
    cases h2
    exact ⟨(iIn_eq n).1 h1, rfl⟩
  · rename_i hk
    cases h
    cases k <;> first | exact ⟨trivial, rfl⟩ | exact absurd rfl hk

include hlo hhi in
theorem sLin_ok {a b : Int} {v : SV} (h : sLin X.lo X.hi a b = some v) : Ok E (arith .i64 (a + b * E.n)) v := by
  obtain ⟨h1, h2⟩ := cond_some h
  cases h2
  exact ⟨in64Q_ok hlo hhi h1, rfl⟩

theorem sInts_ok {d : Option TypeDesc} {op : BinOp} {k : IntKind} {a b : Int} {v : SV} (hs : isShift op = false) (h : sInts op k a b = some v) : Ok E (aBin d op (.t (.int k a)) (.t (.int k b))) v := by
  cases op <;> simp only [sInts, isShift] at h hs <;> simp only [aBin, if_true]
  case add => exact sArith_ok h
  case sub => exact sArith_ok h
  case mul => exact sArith_ok h
  case quo =>
    obtain ⟨h1, h2⟩ := cond_some' h
    have := sArith_ok (E := E) h2
    refine ⟨⟨?_, this.1⟩, this.2⟩
    intro e; rw [iEq_eq, e] at h1; simp at h1
  case rem =>
    obtain ⟨h1, h2⟩ := cond_some' h
    cases h2
    refine ⟨?_, rfl⟩
    intro e; rw [iEq_eq, e] at h1; simp at h1
  case and => cases h; exact ⟨trivial, rfl⟩
  case or => cases h; exact ⟨trivial, rfl⟩
  case xor => cases h; exact ⟨trivial, rfl⟩
  case andNot => cases h; exact ⟨trivial, rfl⟩
  case eql => cases h; refine ⟨trivial, ?_⟩; simp only [SV.den, bv, iEq_eq]; try congr 2
  case neq => cases h; refine ⟨trivial, ?_⟩; simp only [SV.den, bv, iEq_eq, bne]; try congr 2
  case lss => cases h; refine ⟨trivial, ?_⟩; simp only [SV.den, bv, iNeg_eq]; try congr 2; simp only [decide_eq_decide]; omega
  case leq => cases h; refine ⟨trivial, ?_⟩; simp only [SV.den, bv, iNeg_eq, ← decide_not]; try congr 2; simp only [decide_eq_decide]; omega
  case gtr => cases h; refine ⟨trivial, ?_⟩; simp only [SV.den, bv, iNeg_eq]; try congr 2; simp only [decide_eq_decide]; omega
  case geq => cases h; refine ⟨trivial, ?_⟩; simp only [SV.den, bv, iNeg_eq, ← decide_not]; try congr 2; simp only [decide_eq_decide]; omega
  all_goals first | cases hs | cases h

theorem sShift_ok {d : Option TypeDesc} {op : BinOp} {k k' : IntKind} {a b : Int} {v : SV} (h : sShift op k a b = some v) : Ok E (aBin d op (.t (.int k a)) (.t (.int k' b))) v := by
  cases op <;> simp only [sShift] at h <;> simp only [aBin]
  case shl =>
    obtain ⟨h1, h2⟩ := cond_some' h
    cases h2
    rw [iNeg_eq] at h1
    exact ⟨by simpa using h1, rfl⟩
  case shr =>
    obtain ⟨h1, h2⟩ := cond_some' h
    cases h2
    rw [iNeg_eq] at h1
    exact ⟨by simpa using h1, rfl⟩
  all_goals cases h

include hlo hhi in
theorem sLins_ok {d : Option TypeDesc} {op : BinOp} {a b a' b' : Int} {v : SV} (h : sLins X.lo X.hi op a b a' b' = some v) : Ok E (aBin d op (.t (.int .i64 (a + b * E.n))) (.t (.int .i64 (a' + b' * E.n)))) v := by
  have es : a - a' + (b - b') * E.n = (a + b * E.n) - (a' + b' * E.n) := by rw [Int.sub_mul]; omega
  have es' : a' - a + (b' - b) * E.n = (a' + b' * E.n) - (a + b * E.n) := by rw [Int.sub_mul]; omega
  have ea : a + a' + (b + b') * E.n = (a + b * E.n) + (a' + b' * E.n) := by rw [Int.add_mul]; omega
  have z : ∀ r, zeroQ X.lo X.hi (a - a') (b - b') = some r → r = decide (a + b * E.n = a' + b' * E.n) := fun r hr => by
    rw [zeroQ_ok hlo hhi hr, es]; simp only [decide_eq_decide]; omega
  have n1 : ∀ r, negQ X.lo X.hi (a - a') (b - b') = some r → r = decide (a + b * E.n < a' + b' * E.n) := fun r hr => by
    rw [negQ_ok hlo hhi hr, es]; simp only [decide_eq_decide]; omega
  have n2 : ∀ r, negQ X.lo X.hi (a' - a) (b' - b) = some r → r = decide (a' + b' * E.n < a + b * E.n) := fun r hr => by
    rw [negQ_ok hlo hhi hr, es']; simp only [decide_eq_decide]; omega
  cases op <;> simp only [sLins] at h <;> simp only [aBin, if_true]
  case add => rw [← ea]; exact sLin_ok hlo hhi h
  case sub => rw [← es]; exact sLin_ok hlo hhi h
  case eql => obtain ⟨r, hr, rfl⟩ := Option.map_eq_some_iff.1 h; refine ⟨trivial, ?_⟩; simp only [SV.den, bv, z r hr]; try congr 2
  case neq => obtain ⟨r, hr, rfl⟩ := Option.map_eq_some_iff.1 h; refine ⟨trivial, ?_⟩; simp only [SV.den, bv, z r hr, bne]; try congr 2
  case lss => obtain ⟨r, hr, rfl⟩ := Option.map_eq_some_iff.1 h; refine ⟨trivial, ?_⟩; simp only [SV.den, bv, n1 r hr]
  case leq => obtain ⟨r, hr, rfl⟩ := Option.map_eq_some_iff.1 h; refine ⟨trivial, ?_⟩; simp only [SV.den, bv, n2 r hr, ← decide_not]; try congr 2; simp only [decide_eq_decide]; omega
  case gtr => obtain ⟨r, hr, rfl⟩ := Option.map_eq_some_iff.1 h; refine ⟨trivial, ?_⟩; simp only [SV.den, bv, n2 r hr]; try congr 2
  case geq => obtain ⟨r, hr, rfl⟩ := Option.map_eq_some_iff.1 h; refine ⟨trivial, ?_⟩; simp only [SV.den, bv, n1 r hr, ← decide_not]; try congr 2; simp only [decide_eq_decide]; omega
  all_goals cases h

theorem sRest_ok {d : Option TypeDesc} {op : BinOp} {x y : SV} {v : SV} (h : sRest d op x y = some v) : Ok E (aBin d op (x.den E) (y.den E)) v := by
  have key : ∀ b, sEqT d x y = some b → (∀ op', op' = .eql ∨ op' = .neq → (aBin d op' (x.den E) (y.den E)).dom) ∧ (aBin d .eql (x.den E) (y.den E)).val = bv b ∧ (aBin d .neq (x.den E) (y.den E)).val = bv (!b) := fun b hb => by
    unfold sEqT at hb
    split at hb <;> first
      | (cases hb; refine ⟨fun op' ho => ?_, rfl, rfl⟩; rcases ho with rfl | rfl <;> trivial)
      | cases hb
  unfold sRest at h
  split at h
  · obtain ⟨r, hr, rfl⟩ := Option.map_eq_some_iff.1 h
    exact ⟨(key r hr).1 _ (.inl rfl), (key r hr).2.1⟩
  · obtain ⟨r, hr, rfl⟩ := Option.map_eq_some_iff.1 h
    exact ⟨(key r hr).1 _ (.inr rfl), (key r hr).2.2⟩
  · cases h

include hlo hhi in
theorem sBin_ok {d : Option TypeDesc} {op : BinOp} {x y : SV} {v : SV} (h : sBin X.lo X.hi d op x y = some v) : Ok E (aBin d op (x.den E) (y.den E)) v := by
  unfold sBin at h
  split at h
  · rename_i k a k' b
    unfold sIntInt at h
    cases hs : isShift op with
    | true => rw [hs] at h; exact sShift_ok h
    | false =>
      rw [hs] at h
      obtain ⟨h1, h2⟩ := cond_some h
      rw [kEq_eq] at h1
      have : k = k' := by simpa using h1
      subst this
      exact sInts_ok hs h2
  · rename_i k a a' b'
    obtain ⟨h1, h2⟩ := cond_some h
    have : k = .i64 := by simpa [kEq_eq] using h1
    subst this
    have := sLins_ok (d := d) hlo hhi h2
    simpa [SV.den] using this
  · rename_i a b k a'
    obtain ⟨h1, h2⟩ := cond_some h
    have : k = .i64 := by simpa [kEq_eq] using h1
    subst this
    have := sLins_ok (d := d) hlo hhi h2
    simpa [SV.den] using this
  · exact sLins_ok hlo hhi h
  · rename_i a b
    unfold sStrs at h
    split at h
    · cases h; exact ⟨trivial, rfl⟩
    · cases h; exact ⟨trivial, rfl⟩
    · cases h
  · exact sRest_ok h

theorem sNum_ok {x : SV} {i : SI} (h : sNum x = some i) : x.den E = .t (.int .i64 (i.den E)) := by
  unfold sNum at h
  split at h
  · cases h; simp [SV.den, SI.den, SI.a, SI.b]
  · cases h; simp [SV.den, SI.den, SI.a, SI.b]
  · cases h

include hlo hhi in
theorem sEqInts_ok : ∀ (xs ys : List SV) (r : Bool), sEqInts X.lo X.hi xs ys = some r → (eqInts (dens E xs) (dens E ys)).dom ∧ (eqInts (dens E xs) (dens E ys)).val = r
  | [], [], r, h => by cases h; exact ⟨trivial, rfl⟩
  | [], _ :: _, r, h => by simp [sEqInts] at h
  | _ :: _, [], r, h => by simp [sEqInts] at h
  | x :: xs, y :: ys, r, h => by
    unfold sEqInts at h
    split at h
    · rename_i a b ha hb
      split at h
      · rename_i p q hp hq
        cases h
        have ih := sEqInts_ok xs ys q hq
        have e1 := sNum_ok (E := E) ha
        have e2 := sNum_ok (E := E) hb
        have e3 := siEq_ok hlo hhi hp
        simp only [dens, e1, e2, eqInts]
        refine ⟨⟨trivial, ih.1⟩, ?_⟩
        rw [ih.2, e3]
        congr 1
      · cases h
    · cases h

include hlo hhi in
theorem sBinOp_ok {op : BinOp} {t : TypeId} {y : Operand} {a b : SV} {x : SV × SUps} (h : up (sBinOp X op t y a b) = some x) :
    Ok2 E (if nilCmp X.P op t y (a.den E) then ⟨True, (nilRes op (a.den E), [])⟩ else if isStr X.P t (a.den E) then lift (aEqS op (a.den E) (b.den E)) else lift (aBin (X.P.underlying t) op (a.den E) (b.den E))) x := by
  cases hs : isSlice a with
  | true =>
    have hn : ∀ v, sBinOp X op t y a b = some v → nilCmp X.P op t y (a.den E) = true ∧ nilRes op (a.den E) = v.den E := fun v hv => by
      unfold sBinOp at hv
      rw [hs] at hv
      obtain ⟨h1, h2⟩ := cond_some hv
      cases h2
      unfold sNilCmp at h1
      refine ⟨?_, ?_⟩
      · split at h1
        · rename_i hu
          unfold nilCmp
          rw [hu]
          cases a <;> simp [isSlice] at hs <;> rfl
        · rename_i hu
          unfold nilCmp
          rw [hu]
          cases a <;> simp [isSlice] at hs <;> rfl
        · cases h1
      · cases a <;> simp [isSlice] at hs <;> (cases op <;> rfl)
    unfold up at h
    split at h
    · rename_i v hv
      cases h
      obtain ⟨h1, h2⟩ := hn v hv
      rw [if_pos h1]
      exact ⟨trivial, by simp [h2, denU]⟩
    · cases h
  | false =>
    have hn : nilCmp X.P op t y (a.den E) = false := by
      unfold nilCmp
      cases a <;> simp [isSlice] at hs <;> (simp only [SV.den]; split <;> simp_all)
    rw [hn]
    simp only [Bool.false_eq_true, if_false]
    cases ha : isAggV a with
    | true =>
      obtain ⟨xs, rfl⟩ : ∃ xs, a = .agg xs := by cases a <;> simp [isAggV] at ha; exact ⟨_, rfl⟩
      have hst : ∀ v, sBinOp X op t y (.agg xs) b = some v → isStr X.P t (SV.den E (.agg xs)) = true ∧ Ok E (aEqS op (SV.den E (.agg xs)) (b.den E)) v := fun v hv => by
        unfold sBinOp at hv
        rw [hs] at hv
        simp only [cond_false, ha, cond_true] at hv
        obtain ⟨h1, h2⟩ := cond_some hv
        refine ⟨?_, ?_⟩
        · unfold sIsStr at h1
          simp only [isStr, SV.den, dens_length]
          exact h1
        · unfold sEqS at h2
          split at h2
          · rename_i ys zs e1
            cases e1
            obtain ⟨r, hr, rfl⟩ := Option.map_eq_some_iff.1 h2
            have := sEqInts_ok hlo hhi _ _ r hr
            exact ⟨this.1, by simp only [aEqS, SV.den, this.2, bv]⟩
          · rename_i ys zs e1
            cases e1
            obtain ⟨r, hr, rfl⟩ := Option.map_eq_some_iff.1 h2
            have := sEqInts_ok hlo hhi _ _ r hr
            exact ⟨this.1, by simp only [aEqS, SV.den, this.2, bv]⟩
          · cases h2
      have hsome : ∃ v, sBinOp X op t y (.agg xs) b = some v := by
        unfold up at h
        split at h
        · exact ⟨_, by assumption⟩
        · cases h
      obtain ⟨v, hv⟩ := hsome
      rw [if_pos (hst v hv).1]
      exact Ok.lift (fun v hv => (hst v hv).2) h
    | false =>
      have hst : isStr X.P t (a.den E) = false := by
        cases a <;> simp [isAggV] at ha <;> rfl
      rw [hst]
      simp only [Bool.false_eq_true, if_false]
      refine Ok.lift (fun v hv => ?_) h
      unfold sBinOp at hv
      rw [hs, ha] at hv
      exact sBin_ok hlo hhi hv

theorem sUn_ok {op : UnOp} {x v : SV} (h : sUn op x = some v) : Ok E (aUn op (x.den E)) v := by
  unfold sUn at h
  split at h
  · exact sArith_ok h
  · cases h; exact ⟨trivial, rfl⟩
  · cases h; exact ⟨trivial, rfl⟩
  · cases h
include hlo hhi in
theorem sUnL_ok {op : UnOp} {x v : SV} (h : sUnL X.lo X.hi op x = some v) : Ok E (aUn op (x.den E)) v := by
  unfold sUnL at h
  split at h
  · rename_i a b
    have := sLin_ok hlo hhi h
    have e : 0 - (a + b * E.n) = (0 - a) + (0 - b) * E.n := by rw [Int.sub_mul]; omega
    simp only [SV.den, aUn, e]
    exact this
  · exact sUn_ok h

theorem isU_den (a : SV) : isU a = true ↔ a.den E = .tup [] := by
  cases a <;> simp [isU, SV.den]
  rename_i vs
  cases vs <;> simp [isU, dens]

theorem sPick_ok {c a b v : SV} (h : sPick c a b = some v) : Ok E (aPick (c.den E) (a.den E) (b.den E)) v := by
  unfold sPick at h
  split at h
  · obtain ⟨h1, h2⟩ := cond_some' h
    obtain ⟨h3, h4⟩ := cond_some h2
    cases h4
    have na : a.den E ≠ .tup [] := fun e => by rw [(isU_den a).2 e] at h1; cases h1
    simp only [SV.den]
    unfold aPick
    simp only
    split
    · rename_i e; exact absurd e na
    · first | exact ⟨rfl, rfl⟩ | exact ⟨trivial, rfl⟩
    · rename_i x y e1 e2; exact ⟨trivial, by rw [e1]; rfl⟩
    · rename_i k x k' y e1 e2
      refine ⟨?_, by rw [e1]; rfl⟩
      revert h3 e1 e2
      cases a <;> cases b <;> simp [SV.den, sameForm, kEq_eq] <;> intros <;> simp_all
    · first | exact ⟨rfl, rfl⟩ | exact ⟨trivial, rfl⟩
  · cases hu : isU a with
    | true =>
      rw [hu] at h
      cases h
      simp only [SV.den, (isU_den a).1 hu]
      exact ⟨rfl, rfl⟩
    | false =>
      rw [hu] at h
      obtain ⟨h1, h2⟩ := cond_some' h
      obtain ⟨h3, h4⟩ := cond_some h2
      cases h4
      have na : a.den E ≠ .tup [] := fun e => by rw [(isU_den a).2 e] at hu; cases hu
      have nb : b.den E ≠ .tup [] := fun e => by rw [(isU_den b).2 e] at h1; cases h1
      simp only [SV.den]
      unfold aPick
      simp only
      split
      · rename_i e; exact absurd e na
      · first | exact absurd (by assumption) nb | exact ⟨trivial, rfl⟩
      · rename_i x y e1 e2; exact ⟨trivial, by rw [e2]; rfl⟩
      · rename_i k x k' y e1 e2
        have hk : k = k' := by
          revert h3 e1 e2
          cases a <;> cases b <;> simp [SV.den, sameForm, kEq_eq] <;> intros <;> simp_all
        subst hk
        refine ⟨rfl, by rw [e2]; rfl⟩
      · first | exact ⟨trivial, rfl⟩ | (rename_i e; exact absurd e nb)
  · cases h

include hlo hhi in
theorem sConvI_ok {k : IntKind} {x v : SV} (h : sConvI X.lo X.hi k x = some v) : Ok E (aConvI k (x.den E)) v := by
  unfold sConvI at h
  split at h
  · cases h; exact ⟨trivial, rfl⟩
  · obtain ⟨h1, h2⟩ := cond_some h
    have : k = .i64 := by simpa [kEq_eq] using h1
    subst this
    obtain ⟨h3, h4⟩ := sLin_ok hlo hhi h2
    refine ⟨trivial, ?_⟩
    rw [← h4]
    have h3' : In64 _ := h3
    simp only [aConvI, SV.den, arith, wrap_in64 h3']
  · cases h
theorem sMM_ok {mx : Bool} {x y v : SV} (h : sMM mx x y = some v) : Ok E (aMM mx (x.den E) (y.den E)) v := by
  unfold sMM at h
  split at h
  · cases h; exact ⟨trivial, rfl⟩
  · cases h

end

end Go.Dm
