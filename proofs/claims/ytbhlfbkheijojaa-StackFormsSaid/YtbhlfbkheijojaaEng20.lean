/-
  A region whose order is drawn: each order that may be drawn does what the order of the text does.
  Conditions: 'drawOK' of the region, 'apartAll' of what it has come to.
-/
import Derived.Test.YtbhlfbkheijojaaEng19
namespace Go.Dm

def ancRow (anc : List Nat) (o : Oper) : Nat := o.after.toList.foldl (fun m e => if Region.binds .any e then m ||| (2 ^ e.on ||| anc.getD e.on 0) else m) 0

def ancs (ops : Array Oper) : List Nat := ops.toList.foldl (fun l o => l ++ [ancRow l o]) []

def pairOK (Γ : Pures) (ops : Array Oper) (an : Nat) (j : Nat) (oj oi : Oper) : Bool :=
  (match oj.dst with | none => true | some d => oi.dst != some d && (an.testBit j || !(oi.looksAt ops).contains d)) &&
  (match oi.dst with | none => true | some d => !(oj.looksAt ops).contains d || (an.testBit j && cls Γ oj.op == 0)) &&
  (an.testBit j || agree Γ oj.op oi.op)

def drawOK (Γ : Pures) (ops : Array Oper) : Bool :=
  let anc := ancs ops
  (List.range ops.size).all fun i =>
    match ops[i]? with
    | none => true
    | some oi =>
      (anc.getD i 0 == ancRow anc oi) && oi.after.toList.all (fun e => !Region.binds .any e || decide (e.on < i)) &&
      (match oi.dst with | none => true | some d => !(oi.looksAt ops).contains d) &&
      (List.range i).all fun j => match ops[j]? with | none => true | some oj => pairOK Γ ops (anc.getD i 0) j oj oi

/-- the pairs that may come in either order, and both look at memory -/
def loose (Γ : Pures) (ops : Array Oper) : List (Nat × Nat) :=
  let anc := ancs ops
  (List.range ops.size).flatMap fun i => (List.range i).filterMap fun j =>
    match ops[j]?, ops[i]? with
    | some oj, some oi => if !(anc.getD i 0).testBit j && near Γ oj.op oi.op && !(cls Γ oj.op == 3 && cls Γ oi.op == 3 && opQuiet oj.op && opQuiet oi.op) then some (j, i) else none
    | _, _ => none

def apartAll (Γ : Pures) (ops : Array Oper) (ts : List AV) : Bool :=
  (loose Γ ops).all fun p => match ops[p.1]?, ops[p.2]? with | some oj, some oi => apart2 Γ oj oi ts | _, _ => true

theorem foldl_or_testBit {anc : List Nat} {es : List Edge} : ∀ {m : Nat} {j : Nat}, (es.foldl (fun m e => if Region.binds .any e then m ||| (2 ^ e.on ||| anc.getD e.on 0) else m) m).testBit j = true →
    m.testBit j = true ∨ ∃ e ∈ es, Region.binds .any e = true ∧ (e.on = j ∨ (anc.getD e.on 0).testBit j = true) := by
  induction es with
  | nil => intro m j h; exact .inl h
  | cons e r ih =>
    intro m j h
    simp only [List.foldl_cons] at h
    rcases ih h with h' | ⟨e', he', hb⟩
    · split at h'
      · rename_i hb
        simp only [Nat.testBit_or, Bool.or_eq_true, Nat.testBit_two_pow, decide_eq_true_eq] at h'
        rcases h' with h' | h' | h'
        · exact .inl h'
        · exact .inr ⟨e, by simp, hb, .inl h'⟩
        · exact .inr ⟨e, by simp, hb, .inr h'⟩
      · exact .inl h'
    · exact .inr ⟨e', by simp [he'], hb⟩

theorem ancRow_testBit {anc : List Nat} {o : Oper} {j : Nat} (h : (ancRow anc o).testBit j = true) : ∃ e ∈ o.after.toList, Region.binds .any e = true ∧ (e.on = j ∨ (anc.getD e.on 0).testBit j = true) := by
  rcases foldl_or_testBit h with h | h
  · simp at h
  · exact h

/-- what has been listed bears what it hangs on -/
def Closed (ops : Array Oper) (listed : Nat → Bool) : Prop := ∀ i o, ops[i]? = some o → listed i = true → ∀ e ∈ o.after.toList, Region.binds .any e = true → listed e.on = true

structure Fit (Γ : Pures) (ops : Array Oper) : Prop where
  row : ∀ (i : Nat) (o : Oper), ops[i]? = some o → (ancs ops).getD i 0 = ancRow (ancs ops) o
  low : ∀ (i : Nat) (o : Oper), ops[i]? = some o → ∀ e ∈ o.after.toList, Region.binds .any e = true → e.on < i
  own : ∀ (i : Nat) (o : Oper), ops[i]? = some o → ∀ d, o.dst = some d → d ∉ o.looksAt ops
  pair : ∀ (i : Nat) (oi : Oper), ops[i]? = some oi → ∀ (j : Nat) (oj : Oper), j < i → ops[j]? = some oj → pairOK Γ ops ((ancs ops).getD i 0) j oj oi = true

theorem drawOK_fit {Γ : Pures} {ops : Array Oper} (h : drawOK Γ ops = true) : Fit Γ ops := by
  simp only [drawOK, List.all_eq_true, List.mem_range] at h
  have h' : ∀ i oi, ops[i]? = some oi → _ := fun i oi hi => by
    have hlt : i < ops.size := by rw [Array.getElem?_eq_some_iff] at hi; exact hi.1
    have := h i hlt
    rw [hi] at this
    simp only [Bool.and_eq_true, beq_iff_eq, List.all_eq_true] at this
    exact this
  refine ⟨fun i o hi => (h' i o hi).1.1.1, fun i o hi e he hb => ?_, fun i o hi d hd => ?_, fun i oi hi j oj hj hoj => ?_⟩
  · have := (h' i o hi).1.1.2 e he
    simpa [hb] using this
  · have := (h' i o hi).1.2
    rw [hd] at this
    simpa using this
  · have := (h' i oi hi).2 j (List.mem_range.2 hj)
    rw [hoj] at this
    exact this

theorem anc_listed {Γ : Pures} {ops : Array Oper} (F : Fit Γ ops) {listed : Nat → Bool} (hc : Closed ops listed) : ∀ (i : Nat) (o : Oper), ops[i]? = some o → (∀ e ∈ o.after.toList, Region.binds .any e = true → listed e.on = true) →
    ∀ j, ((ancs ops).getD i 0).testBit j = true → listed j = true := by
  intro i
  induction i using Nat.strongRecOn with
  | _ i ih =>
    intro o ho hp j hj
    rw [F.row i o ho] at hj
    obtain ⟨e, he, hb, hj⟩ := ancRow_testBit hj
    rcases hj with rfl | hj
    · exact hp e he hb
    · have hlt := F.low i o ho e he hb
      have hsz : e.on < ops.size := Nat.lt_trans hlt (by rw [Array.getElem?_eq_some_iff] at ho; exact ho.1)
      exact ih e.on hlt _ (Array.getElem?_eq_getElem hsz) (fun e' he' hb' => hc _ _ (Array.getElem?_eq_getElem hsz) (hp e he hb) e' he' hb') j hj

theorem nest_mono {P : Program} {Γ : Pures} {ops : Array Oper} : ∀ (l : List Nat) {K K' : St → Prop} {st : St}, (∀ st, K st → K' st) → nest P Γ ops l K st → nest P Γ ops l K' st := by
  intro l
  induction l with
  | nil => intro K K' st h k; exact h _ k
  | cons i r ih =>
    intro K K' st h k
    unfold nest at k ⊢
    split
    · rename_i hi; rw [hi] at k; exact ih h k
    · rename_i o hi; rw [hi] at k
      simp only [opN_iff] at k ⊢
      exact Todo.run_mono k fun st => ih h

theorem nest_append {P : Program} {Γ : Pures} {ops : Array Oper} : ∀ (l m : List Nat) {K : St → Prop} {st : St}, nest P Γ ops (l ++ m) K st ↔ nest P Γ ops l (nest P Γ ops m K) st := by
  intro l
  induction l with
  | nil => intro m K st; exact Iff.rfl
  | cons i r ih =>
    intro m K st
    simp only [List.cons_append]
    unfold nest
    split
    · exact ih m
    · have : nest P Γ ops (r ++ m) K = nest P Γ ops r (nest P Γ ops m K) := funext fun st => propext (ih m)
      rw [this]

/-- where a nest comes to, and which slots it has left as they were -/
theorem nest_some {P : Program} {Γ : Pures} {ops : Array Oper} : ∀ (l : List Nat) {K : St → Prop} {st : St}, nest P Γ ops l K st →
    ∃ st', K st' ∧ ∀ s z, (∀ m ∈ l, ∀ o, ops[m]? = some o → o.dst ≠ some s) → st'.tmps.getD s z = st.tmps.getD s z := by
  intro l
  induction l with
  | nil => intro K st h; exact ⟨st, h, fun _ _ _ => rfl⟩
  | cons i r ih =>
    intro K st h
    unfold nest at h
    split at h
    · obtain ⟨st', h1, h2⟩ := ih h
      exact ⟨st', h1, fun s z hs => h2 s z fun m hm => hs m (by simp [hm])⟩
    · rename_i o ho
      rw [opN_iff] at h
      obtain ⟨v, σ', h⟩ := Todo.run_some h
      obtain ⟨st', h1, h2⟩ := ih h
      refine ⟨st', h1, fun s z hs => ?_⟩
      rw [h2 s z fun m hm => hs m (by simp [hm])]
      exact put_get (hs i (by simp) o ho)

theorem kys_same {Γ : Pures} {ops : Array Oper} {o : Oper} {ts ts' : List AV} (h : SameAt ops o ts ts') : kys Γ o ts = kys Γ o ts' := keysOp_ev h.ev
theorem wr_same {Γ : Pures} {ops : Array Oper} {o : Oper} {ts ts' : List AV} (h : SameAt ops o ts ts') : wr Γ o ts = wr Γ o ts' := by
  unfold wr; rw [keysOp_ev h.ev]
theorem fpOf_same {Γ : Pures} {ops : Array Oper} {o : Oper} {ts ts' : List AV} (h : SameAt ops o ts ts') : fpOf Γ o ts = fpOf Γ o ts' := by
  rfl
theorem apart2_same {Γ : Pures} {ops : Array Oper} {a b : Oper} {ts ts' : List AV} (h : SameAt ops a ts ts') (k : SameAt ops b ts ts') : apart2 Γ a b ts = apart2 Γ a b ts' := by
  unfold apart2; rw [kys_same h, kys_same k, wr_same h, wr_same k, fpOf_same h, fpOf_same k]

/-- one that is ready comes first -/
theorem bring {P : Program} {Γ : Pures} {ops : Array Oper} (F : Fit Γ ops) {K : St → Prop} (hK : ∀ st, K st → apartAll Γ ops st.tmps = true) {i : Nat} {oi : Oper} (hi : ops[i]? = some oi)
    (l2 : List Nat) : ∀ (l1 : List Nat), (l1 ++ i :: l2).Pairwise (· < ·) → (∀ m ∈ l1 ++ i :: l2, ((ancs ops).getD i 0).testBit m = false) → ∀ st,
    nest P Γ ops (l1 ++ i :: l2) K st → nest P Γ ops (i :: (l1 ++ l2)) K st := by
  intro l1
  induction l1 with
  | nil => intro _ _ st h; exact h
  | cons m r ih =>
    intro hs ha st h
    simp only [List.cons_append] at h hs ha ⊢
    have hs' := (List.pairwise_cons.1 hs)
    unfold nest at h
    cases hm : ops[m]? with
    | none =>
      rw [hm] at h
      simp only at h
      have := ih hs'.2 (fun x hx => ha x (List.mem_cons_of_mem _ hx)) st h
      unfold nest at this ⊢
      rw [hi] at this ⊢
      simp only at this ⊢
      have e : nest P Γ ops (m :: (r ++ l2)) K = nest P Γ ops (r ++ l2) K := by funext st; conv => lhs; unfold nest; rw [hm]
      rw [e]; exact this
    | some om =>
      rw [hm] at h
      simp only at h
      have hlt : m < i := hs'.1 i (by simp)
      have hp := F.pair i oi hi m om hlt hm
      have hbit : ((ancs ops).getD i 0).testBit m = false := ha m (by simp)
      simp only [pairOK, hbit, Bool.false_or, Bool.and_eq_true, Bool.false_and, Bool.or_false] at hp
      have h' : opN P Γ ops om (opN P Γ ops oi (nest P Γ ops (r ++ l2) K)) st := by
        rw [opN_iff] at h ⊢
        refine Todo.run_mono h fun st hst => ?_
        have := ih hs'.2 (fun x hx => ha x (List.mem_cons_of_mem _ hx)) st hst
        unfold nest at this
        rw [hi] at this
        exact this
      have hd1 : ∀ d, om.dst = some d → d ∉ oi.looksAt ops := fun d hd => by
        have := hp.1.1; rw [hd] at this; simp at this; exact this.2
      have hd2 : ∀ d, oi.dst = some d → d ∉ om.looksAt ops := fun d hd => by
        have := hp.1.2; rw [hd] at this; simpa using this
      have hd3 : ∀ d, om.dst = some d → oi.dst ≠ some d := fun d hd => by
        have := hp.1.1; rw [hd] at this; simp at this; exact this.1
      have hap : near Γ om.op oi.op = true → apart2 Γ om oi st.tmps = true := fun hnear => by
        by_cases hq : (cls Γ om.op == 3 && cls Γ oi.op == 3 && opQuiet om.op && opQuiet oi.op) = true
        · simp only [Bool.and_eq_true, beq_iff_eq] at hq
          obtain ⟨⟨⟨q1, q2⟩, q3⟩, q4⟩ := hq
          unfold apart2
          rw [if_neg (by omega), if_neg (by omega)]
          simp [wr, q3, q4]
        · -- what it comes to in the end
          have h0 : nest P Γ ops (m :: (r ++ i :: l2)) K st := by unfold nest; rw [hm]; exact h
          obtain ⟨st', k1, k2⟩ := nest_some _ h0
          have hall := hK _ k1
          have hin : (m, i) ∈ loose Γ ops := by
            have hisz : i < ops.size := by rw [Array.getElem?_eq_some_iff] at hi; exact hi.1
            simp only [loose, List.mem_flatMap, List.mem_filterMap, List.mem_range]
            refine ⟨i, hisz, m, hlt, ?_⟩
            rw [hm, hi]
            simp only [Bool.not_eq_true] at hq
            simp only [hbit, hnear, hq, Bool.not_false, Bool.true_and, if_true]
          simp only [apartAll, List.all_eq_true] at hall
          have := hall _ hin
          simp only [hm, hi] at this
          rw [← this]
          -- the slots that the two look at
          have same : ∀ x ox, ops[x]? = some ox → x = m ∨ x = i → SameAt ops ox st.tmps st'.tmps := fun x ox hox hx t ht z => by
            refine (k2 t z fun y hy oy hoy hd => ?_).symm
            -- y is not listed, and writes what x looks at
            have hym : m ≤ y := by
              simp only [List.mem_cons] at hy
              rcases hy with rfl | hy
              · exact Nat.le_refl _
              · exact Nat.le_of_lt (hs'.1 y hy)
            rcases Nat.lt_trichotomy y x with hyx | rfl | hyx
            · rcases hx with rfl | rfl
              · omega
              · have hb : ((ancs ops).getD x 0).testBit y = false := ha y hy
                have := F.pair x ox hox y oy hyx hoy
                simp only [pairOK, hb, hd, Bool.false_or, Bool.and_eq_true, Bool.false_and, Bool.or_false] at this
                have := this.1.1.2
                simp at this
                exact this ht
            · rw [hox] at hoy; cases hoy
              exact F.own _ _ hox t hd ht
            · have := F.pair y oy hoy x ox hyx hox
              simp only [pairOK, hd, Bool.and_eq_true] at this
              have := this.1.2
              simp only [Bool.or_eq_true, Bool.and_eq_true, Bool.not_eq_true', beq_iff_eq] at this
              rcases this with h1 | ⟨_, h1⟩
              · simp at h1
                exact h1 ht
              · have hc0 : cls Γ om.op = 3 ∨ cls Γ om.op = 4 := by
                  unfold near at hnear
                  simp only [Bool.or_eq_true, Bool.and_eq_true, beq_iff_eq] at hnear
                  omega
                have hc1 : cls Γ oi.op = 3 ∨ cls Γ oi.op = 4 := by
                  unfold near at hnear
                  simp only [Bool.or_eq_true, Bool.and_eq_true, beq_iff_eq] at hnear
                  omega
                rcases hx with rfl | rfl
                · rw [hm] at hox; cases hox; omega
                · rw [hi] at hox; cases hox; omega
          exact apart2_same (same m om hm (.inl rfl)) (same i oi hi (.inr rfl))
      have := swap hd1 hd2 hd3 hp.2 hap h'
      unfold nest
      rw [hi]
      simp only
      have e : nest P Γ ops (m :: (r ++ l2)) K = opN P Γ ops om (nest P Γ ops (r ++ l2) K) := by funext st; conv => lhs; unfold nest; rw [hm]
      rw [e]; exact this

end Go.Dm
