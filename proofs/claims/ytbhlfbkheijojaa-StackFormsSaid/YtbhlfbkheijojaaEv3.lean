/-
  What the machine that can be run tells: its values, its memory.
  Conditions: none.
-/
import Derived.Test.YtbhlfbkheijojaaEv2
namespace Go.Dm

/-- the number n; the argument as it came -/
structure Env where
  n : Int
  q : Int

mutual
def SV.den (E : Env) : SV → AV
  | .bool b => .t (.bool b)
  | .int k n => .t (.int k n)
  | .lin a b => .t (.int .i64 (a + b * E.n))
  | .str s => .t (.str s)
  | .nilp => .t .nilp
  | .nilmap => .t .nilmap
  | .nilsl => .nils
  | .emp => .tsl []
  | .any => .any
  | .opq => .t (.int .i64 E.q)
  | .ptr k e o => .ptr k e o
  | .own k off len t => .own k off len t
  | .mapr k => .mapr k
  | .it k => .it k
  | .bq p q => .bq p q
  | .agg cs => .agg (dens E cs)
  | .tup vs => .tup (dens E vs)
  | .fn f a b => .fn f (dens E a) (dens E b)
def dens (E : Env) : List SV → List AV
  | [] => []
  | a :: r => a.den E :: dens E r
end

theorem dens_eq (E : Env) : ∀ l : List SV, dens E l = l.map (SV.den E)
  | [] => rfl
  | a :: r => by rw [dens, List.map_cons, dens_eq E r]
@[simp] theorem dens_length (E : Env) (l : List SV) : (dens E l).length = l.length := by simp [dens_eq]
theorem dens_append (E : Env) (a b : List SV) : dens E (a ++ b) = dens E a ++ dens E b := by simp [dens_eq]

def SI.den (E : Env) (x : SI) : Int := x.a + x.b * E.n
def SKey.den (E : Env) : SKey → MKey
  | .i x => .i (x.den E)
  | .s b => .s b
  | .p x y => .p (x.den E) (y.den E)
def denE (E : Env) (es : SEnts) : Ents := es.map fun x => (x.1.den E, x.2.1.den E, x.2.2)
def SBlk.den (E : Env) : SBlk → Blk
  | .dead => .dead
  | .row t sz es => .row t sz (es.map (dens E))
  | .mapl kd es c => .mapl kd (denE E es) c
  | .itl src since seen last => .itl (src.den E) since seen last
noncomputable def denH (E : Env) (h : TH) : Heap := fun k => (h.get k).map (SBlk.den E)
def denU (E : Env) (u : SUps) : Ups := u.map fun x => (x.1, x.2.den E)
noncomputable def dts (E : Env) (s : Sl) : List AV := (List.range s.n).map fun i => (s.at i).den E
noncomputable def denS (E : Env) (s : SS) : St := ⟨dts E s.ts, denH E s.h⟩

/-! trees -/
theorem Tr.get_zero {α : Type} (t : Tr α) : t.get 0 = t.val := by cases t <;> rfl
theorem Tr.get_succ {α : Type} (t : Tr α) (k : Nat) : t.get (k + 1) = bif Nat.beq (Nat.mod k 2) 0 then t.left.get (Nat.div k 2) else t.right.get (Nat.div k 2) := by
  cases t with
  | lf => cases Nat.beq (Nat.mod k 2) 0 <;> rfl
  | nd l v r =>
    show Bool.rec (motive := fun _ => Option α) (r.get (Nat.div k 2)) (l.get (Nat.div k 2)) (Nat.beq (Nat.mod k 2) 0) = bif Nat.beq (Nat.mod k 2) 0 then l.get (Nat.div k 2) else r.get (Nat.div k 2)
    cases Nat.beq (Nat.mod k 2) 0 <;> rfl
theorem Tr.set_zero {α : Type} (b : α) (n : Nat) (t : Tr α) : Tr.set b (n + 1) t 0 = .nd t.left (some b) t.right := rfl
theorem Tr.set_succ {α : Type} (b : α) (n : Nat) (t : Tr α) (k : Nat) : Tr.set b (n + 1) t (k + 1) =
    bif Nat.beq (Nat.mod k 2) 0 then .nd (Tr.set b n t.left (Nat.div k 2)) t.val t.right else .nd t.left t.val (Tr.set b n t.right (Nat.div k 2)) := by
  show Bool.rec (motive := fun _ => Tr α) (.nd t.left t.val (Tr.set b n t.right (Nat.div k 2))) (.nd (Tr.set b n t.left (Nat.div k 2)) t.val t.right) (Nat.beq (Nat.mod k 2) 0) = _
  cases Nat.beq (Nat.mod k 2) 0 <;> rfl

theorem beq_mod (k : Nat) : Nat.beq (Nat.mod k 2) 0 = decide (k % 2 = 0) := by
  show Nat.beq (k % 2) 0 = _
  cases h : Nat.beq (k % 2) 0 with
  | true => have := Nat.eq_of_beq_eq_true h; simp [this]
  | false => have := Nat.ne_of_beq_eq_false h; simp [this]

theorem Tr.get_set {α : Type} (b : α) : ∀ (n : Nat) (t : Tr α) (k j : Nat), k + 1 < 2 ^ n → (Tr.set b n t k).get j = if j = k then some b else t.get j
  | 0, t, k, j, h => by simp at h
  | n + 1, t, 0, 0, h => by rw [Tr.set_zero, Tr.get_zero]; rfl
  | n + 1, t, 0, j + 1, h => by
    rw [Tr.set_zero, Tr.get_succ, Tr.get_succ, if_neg (by omega)]
    rfl
  | n + 1, t, k + 1, 0, h => by
    rw [Tr.set_succ, Tr.get_zero, Tr.get_zero, if_neg (by omega)]
    cases Nat.beq (Nat.mod k 2) 0 <;> rfl
  | n + 1, t, k + 1, j + 1, h => by
    have hk : k / 2 + 1 < 2 ^ n := by
      rw [Nat.pow_succ] at h
      omega
    have ih1 := Tr.get_set b n t.left (k / 2) (j / 2) hk
    have ih2 := Tr.get_set b n t.right (k / 2) (j / 2) hk
    rw [Tr.set_succ, Tr.get_succ, Tr.get_succ]
    simp only [beq_mod]
    by_cases h1 : k % 2 = 0
    · by_cases h2 : j % 2 = 0
      · simp only [h1, h2, decide_true, cond_true]
        show (Tr.set b n t.left (k / 2)).get (j / 2) = _
        rw [ih1]
        by_cases e : j = k
        · subst e; simp
        · rw [if_neg (by omega), if_neg (by omega)]; rfl
      · simp only [h1, h2, decide_true, decide_false, cond_true, cond_false]
        rw [if_neg (by omega)]; rfl
    · by_cases h2 : j % 2 = 0
      · simp only [h1, h2, decide_true, decide_false, cond_true, cond_false]
        rw [if_neg (by omega)]; rfl
      · simp only [h1, h2, decide_false, cond_false]
        show (Tr.set b n t.right (k / 2)).get (j / 2) = _
        rw [ih2]
        by_cases e : j = k
        · subst e; simp
        · rw [if_neg (by omega), if_neg (by omega)]; rfl

theorem Tr.get_set64 {α : Type} (b : α) (t : Tr α) {k : Nat} (j : Nat) (h : k < 9223372036854775808) : (Tr.set b 64 t k).get j = if j = k then some b else t.get j :=
  Tr.get_set b 64 t k j (by omega)

theorem Tr.get_lf {α : Type} (k : Nat) : (Tr.lf : Tr α).get k = none := rfl

theorem nat_blt (a b : Nat) : Nat.blt a b = decide (a < b) := by
  show Nat.ble (a + 1) b = _
  cases h : Nat.ble (a + 1) b with
  | true => have := Nat.le_of_ble_eq_true h; simp; omega
  | false =>
    have : ¬ a + 1 ≤ b := fun e => by rw [Nat.ble_eq_true_of_le e] at h; cases h
    simp; omega
theorem nat_ble (a b : Nat) : Nat.ble a b = decide (a ≤ b) := by
  cases h : Nat.ble a b with
  | true => have := Nat.le_of_ble_eq_true h; simp [this]
  | false =>
    have : ¬ a ≤ b := fun e => by rw [Nat.ble_eq_true_of_le e] at h; cases h
    simp; omega
theorem nat_beq (a b : Nat) : Nat.beq a b = decide (a = b) := by
  cases h : Nat.beq a b with
  | true => have := Nat.eq_of_beq_eq_true h; simp [this]
  | false => have := Nat.ne_of_beq_eq_false h; simp [this]

theorem denH_upd (E : Env) (h : TH) (k : Nat) (b : SBlk) (hk : k < 9223372036854775808) : denH E (Tr.set b 64 h k) = upd (denH E h) k (b.den E) := by
  funext j
  unfold denH upd
  rw [Tr.get_set64 b h j hk]
  by_cases e : j = k
  · simp [e]
  · simp [e]

theorem denH_ups (E : Env) : ∀ (u : SUps) (h : TH), okU u = true → denH E (upsT h u) = updAll (denH E h) (denU E u)
  | [], h, _ => rfl
  | (k, b) :: r, h, hk => by
    simp only [okU, nat_blt, Bool.and_eq_true, decide_eq_true_eq] at hk
    show denH E (upsT (Tr.set b 64 h k) r) = updAll (upd (denH E h) k (b.den E)) (denU E r)
    rw [denH_ups E r _ hk.2, denH_upd E h k b hk.1]

theorem denH_some {E : Env} {h : TH} {k : Nat} {b : SBlk} (e : h.get k = some b) : denH E h k = some (b.den E) := by unfold denH; rw [e]; rfl
theorem denH_none {E : Env} {h : TH} {k : Nat} (e : h.get k = none) : denH E h k = none := by unfold denH; rw [e]; rfl

/-! slots -/
theorem Sl.at_eq (s : Sl) (i : Nat) : s.at i = if i < s.n then (s.t.get i).getD (.tup []) else .tup [] := by
  unfold Sl.at
  rw [nat_blt]
  by_cases h : i < s.n
  · simp only [h, decide_true, if_true]
    cases s.t.get i <;> rfl
  · simp [h]

theorem dts_getD (E : Env) (s : Sl) (i : Nat) : (dts E s).getD i (.tup []) = (s.at i).den E := by
  unfold dts
  by_cases h : i < s.n
  · simp [List.getD, h]
  · rw [Sl.at_eq, if_neg h]
    simp [List.getD, h, SV.den, dens]
theorem dts_getD' (E : Env) (s : Sl) (i : Nat) : (dts E s).getD i .any = (bif Nat.blt i s.n then s.at i else .any).den E := by
  unfold dts
  rw [nat_blt]
  by_cases h : i < s.n
  · simp [List.getD, h]
  · simp [List.getD, h, SV.den]

theorem den_sabsC (E : Env) (v : Value) : (sabsC v).den E = absC v := by
  unfold sabsC
  split
  · rfl
  · rfl
  · rfl
  · rfl
  · rfl
  · rfl
  · unfold absC
    split <;> first | rfl | (exfalso; simp_all; done)
theorem den_sabsV (E : Env) (v : Value) : (sabsV v).den E = absV v := by
  unfold sabsV absV
  split
  · simp only [SV.den, dens_eq, List.map_map]
    congr 1
    exact List.map_congr_left fun x _ => den_sabsC E x
  · simp only [SV.den, dens_eq, List.map_map]
    congr 1
    exact List.map_congr_left fun x _ => den_sabsC E x
  · rw [den_sabsC]
    split <;> first | rfl | (exfalso; simp_all; done)

theorem evO_den (E : Env) (s : Sl) (x : Operand) : evO (dts E s) x = (sEv s x).den E := by
  cases x with
  | tmp t => exact dts_getD E s t
  | const v => exact (den_sabsV E v).symm
  | func f => rfl
  | global g => rfl

theorem dts_put (E : Env) (s : Sl) (d : Option Tmp) (v : SV) (h : okD s d = true) : dts E (putS s d v) = putL (dts E s) d (v.den E) := by
  cases d with
  | none => rfl
  | some d =>
    change (Nat.blt d s.n && Nat.ble s.n 4294967296) = true at h
    simp only [nat_blt, nat_ble, Bool.and_eq_true, decide_eq_true_eq] at h
    show dts E ⟨Tr.set v 64 s.t d, s.n⟩ = (dts E s).set d (v.den E)
    apply List.ext_getElem?
    intro i
    unfold dts
    rw [List.getElem?_set]
    simp only [List.getElem?_map, List.length_map, List.length_range]
    by_cases hi : i < s.n
    · rw [List.getElem?_range hi]
      simp only [Option.map_some]
      rw [Sl.at_eq, Sl.at_eq, if_pos hi]
      simp only [hi, if_true]
      rw [Tr.get_set64 v s.t i (by omega)]
      by_cases e : i = d
      · subst e; simp [hi]
      · have e' : ¬ d = i := fun x => e x.symm
        simp [e, e']
    · rw [List.getElem?_eq_none (by simp; omega)]
      by_cases e : d = i
      · subst e; omega
      · simp [e]

/-! whole numbers -/
theorem iNeg_eq (n : Int) : iNeg n = decide (n < 0) := by
  cases n with
  | ofNat n => simp [iNeg]
  | negSucc n => simp [iNeg, Int.negSucc_lt_zero]
theorem iEq_eq (a b : Int) : iEq a b = decide (a = b) := by
  cases a with
  | ofNat a => cases b with
    | ofNat b => simp only [iEq, nat_beq]; congr 1; simp only [eq_iff_iff]; exact ⟨fun h => by rw [h], fun h => Int.ofNat.inj h⟩
    | negSucc b => simp [iEq]
  | negSucc a => cases b with
    | ofNat b => simp [iEq]
    | negSucc b => simp only [iEq, nat_beq]; congr 1; simp only [eq_iff_iff]; exact ⟨fun h => by rw [h], fun h => Int.negSucc.inj h⟩
theorem iIn_eq (n : Int) : iIn n = true ↔ In64 n := by
  cases n with
  | ofNat n => simp [iIn, nat_ble, In64]; omega
  | negSucc n => simp [iIn, nat_ble, In64]; omega

/-- b * n lies between its ends -/
theorem mid {lo hi n b : Int} (h1 : lo ≤ n) (h2 : n ≤ hi) : (b * n ≤ b * lo ∨ b * n ≤ b * hi) ∧ (b * lo ≤ b * n ∨ b * hi ≤ b * n) := by
  rcases Int.le_total 0 b with h | h
  · exact ⟨.inr (Int.mul_le_mul_of_nonneg_left h2 h), .inl (Int.mul_le_mul_of_nonneg_left h1 h)⟩
  · exact ⟨.inl (Int.mul_le_mul_of_nonpos_left h h1), .inr (Int.mul_le_mul_of_nonpos_left h h2)⟩

theorem negQ_ok {lo hi n a b : Int} {r : Bool} (h1 : lo ≤ n) (h2 : n ≤ hi) (h : negQ lo hi a b = some r) : r = decide (a + b * n < 0) := by
  have hm := mid (b := b) h1 h2
  have hm' : (-(b * n) ≤ -(b * lo) ∨ -(b * n) ≤ -(b * hi)) := by omega
  unfold negQ at h
  split at h
  · rename_i hc
    cases h
    have : a + b * n < 0 := by omega
    simp [this]
  · split at h
    · rename_i hc
      cases h
      have : ¬ a + b * n < 0 := by omega
      simp [this]
    · cases h
theorem zeroQ_ok {lo hi n a b : Int} {r : Bool} (h1 : lo ≤ n) (h2 : n ≤ hi) (h : zeroQ lo hi a b = some r) : r = decide (a + b * n = 0) := by
  unfold zeroQ at h
  split at h
  · rename_i hc
    cases h
    simp [hc.1, hc.2]
  · split at h
    · rename_i hn
      cases h
      have := negQ_ok h1 h2 hn
      simp at this
      have h3 : ¬ a + b * n = 0 := by omega
      simp [h3]
    · split at h
      · rename_i hn
        cases h
        have := negQ_ok h1 h2 hn
        simp only [Int.neg_mul] at this
        have h4 : -a + -(b * n) < 0 := by simpa using this
        have h3 : ¬ a + b * n = 0 := by omega
        simp [h3]
      · cases h
theorem in64Q_ok {lo hi n a b : Int} (h1 : lo ≤ n) (h2 : n ≤ hi) (h : in64Q lo hi a b = true) : In64 (a + b * n) := by
  have hm := mid (b := b) h1 h2
  unfold in64Q In64 at h
  simp only [decide_eq_true_eq] at h
  unfold In64
  omega
theorem siEq_ok {lo hi : Int} {E : Env} {x y : SI} {r : Bool} (h1 : lo ≤ E.n) (h2 : E.n ≤ hi) (h : siEq lo hi x y = some r) : r = decide (x.den E = y.den E) := by
  unfold siEq at h
  split at h
  · rename_i a b
    simp only [Option.some.injEq] at h
    rw [← h, iEq_eq]
    simp [SI.den, SI.a, SI.b]
  · have := zeroQ_ok h1 h2 h
    rw [this]
    unfold SI.den
    have e : x.a - y.a + (x.b - y.b) * E.n = (x.a + x.b * E.n) - (y.a + y.b * E.n) := by rw [Int.sub_mul]; omega
    rw [e]
    congr 1
    simp only [eq_iff_iff]
    omega

theorem kEq_eq (k k' : IntKind) : kEq k k' = decide (k = k') := rfl

theorem nthL_eq {α : Type} : ∀ (l : List α) (n : Nat), nthL l n = l[n]?
  | [], n => rfl
  | x :: r, 0 => rfl
  | x :: r, n + 1 => by
    show nthL r n = _
    rw [nthL_eq r n]; rfl
theorem setL_eq {α : Type} (y : α) : ∀ (l : List α) (n : Nat), setL y l n = l.set n y
  | [], n => rfl
  | x :: r, 0 => rfl
  | x :: r, n + 1 => by
    show x :: setL y r n = _
    rw [setL_eq y r n]; rfl

end Go.Dm
