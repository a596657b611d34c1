/-
  Two operations that do not look at each other's work may change places.
  Conditions: none.
-/
import Derived.Test.YtbhlfbkheijojaaEng18
namespace Go.Dm

def putL (ts : List AV) (d : Option Tmp) (v : AV) : List AV := match d with | some d => ts.set d v | none => ts

theorem put_mk {ts : List AV} {σ : Heap} {d : Option Tmp} {v : AV} : St.put ⟨ts, σ⟩ d v = ⟨putL ts d v, σ⟩ := by cases d <;> rfl

theorem Todo.run_iff {P : Program} {s : Todo} {d : Option Tmp} {K : St → Prop} {ts : List AV} {σ : Heap} : s.run P d K ⟨ts, σ⟩ ↔
    match s with
    | .plain r => r.dom ∧ K ⟨putL ts d r.val.1, updAll σ r.val.2⟩
    | .pure f args R => PSpec P f args R ∧ ∀ r, R r → K ⟨putL ts d r, σ⟩
    | .call S => ∃ R, (S R ∧ ∃ r σ', R r σ') ∧ ∀ r σ', R r σ' → K ⟨putL ts d r, σ'⟩
    | .loc S fp => ∃ R, (S R ∧ ∃ r τ, R r τ) ∧ ∀ r τ, R r τ → FreshK fp σ τ ∧ K ⟨putL ts d r, mrgH σ τ⟩ := by
  cases s <;> simp only [Todo.run, put_mk]

theorem putL_comm {ts : List AV} {d e : Option Tmp} {v w : AV} (h : ∀ x, d = some x → e ≠ some x) : putL (putL ts d v) e w = putL (putL ts e w) d v := by
  cases d with
  | none => rfl
  | some d =>
    cases e with
    | none => rfl
    | some e =>
      have : d ≠ e := fun x => h d rfl (by rw [x])
      exact List.set_comm _ _ this

theorem putL_get {ts : List AV} {d : Option Tmp} {v : AV} {s : Nat} {z : AV} (h : d ≠ some s) : (putL ts d v).getD s z = ts.getD s z := by
  have := put_get (st := ⟨ts, emp⟩) (v := v) (z := z) h
  rwa [put_mk] at this

theorem SameAt.putL {ops : Array Oper} {o : Oper} {ts : List AV} {d : Option Tmp} {v : AV} (h : ∀ x, d = some x → x ∉ o.looksAt ops) : SameAt ops o (putL ts d v) ts := fun t ht _ => putL_get fun e => h t e ht

theorem updAll_other {u : Ups} : ∀ {σ : Heap} {k : Nat}, k ∉ u.map (·.1) → updAll σ u k = σ k := by
  induction u with
  | nil => intro σ k _; rfl
  | cons a r ih =>
    intro σ k h
    simp only [List.map_cons, List.mem_cons, not_or] at h
    rw [updAll, ih h.2]
    simp [upd, h.1]

theorem updAll_last {u : Ups} : ∀ {σ σ' : Heap} {k : Nat}, k ∈ u.map (·.1) → updAll σ u k = updAll σ' u k := by
  induction u with
  | nil => intro σ σ' k h; simp at h
  | cons a r ih =>
    intro σ σ' k h
    by_cases hk : k ∈ r.map (·.1)
    · simp only [updAll]; exact ih hk
    · have : k = a.1 := by simpa [hk] using h
      simp only [updAll]
      rw [updAll_other hk, updAll_other hk]
      simp [upd, this]

theorem updAll_comm {σ : Heap} {u v : Ups} (h : ∀ k ∈ u.map (·.1), k ∉ v.map (·.1)) : updAll (updAll σ u) v = updAll (updAll σ v) u := by
  funext k
  by_cases hu : k ∈ u.map (·.1)
  · rw [updAll_other (h k hu), updAll_last (σ' := updAll σ v) hu]
  · rw [updAll_other (σ := updAll σ v) hu]
    by_cases hv : k ∈ v.map (·.1)
    · exact updAll_last hv
    · rw [updAll_other hv, updAll_other hv, updAll_other hu]

/-- the blocks that an operation may write -/
def wr (Γ : Pures) (o : Oper) (ts : List AV) : List Nat := if opQuiet o.op then [] else keysOp (dkey Γ o) (evO ts) o.op
def kys (Γ : Pures) (o : Oper) (ts : List AV) : List Nat := keysOp (dkey Γ o) (evO ts) o.op

/-- is a key one that a call can reach, or makes -/
def inFp (fp : List Nat × Nat × Nat) (k : Nat) : Bool := fp.1.contains k || (decide (fp.2.1 ≤ k) && decide (k < fp.2.2))
def apart2 (Γ : Pures) (a b : Oper) (ts : List AV) : Bool :=
  if cls Γ a.op = 4 then (kys Γ b ts).all (fun k => !inFp (fpOf Γ a ts) k) else
  if cls Γ b.op = 4 then (kys Γ a ts).all (fun k => !inFp (fpOf Γ b ts) k) else
  (wr Γ a ts).all (fun k => !(kys Γ b ts).contains k) && (wr Γ b ts).all (fun k => !(kys Γ a ts).contains k)

theorem mrg_upd {σ τ : Heap} {u : Ups} (h : ∀ k ∈ u.map (·.1), τ k = none) : updAll (mrgH σ τ) u = mrgH (updAll σ u) τ := by
  funext k
  by_cases hk : k ∈ u.map (·.1)
  · rw [updAll_last (σ' := σ) hk]
    unfold mrgH
    rw [h k hk]
  · rw [updAll_other hk]
    unfold mrgH
    rw [updAll_other hk]

def agree (Γ : Pures) (a b : Op) : Bool :=
  match cls Γ a, cls Γ b with
  | 0, _ => true
  | _, 0 => true
  | 1, 1 => true
  | 1, 3 => true
  | 3, 1 => true
  | 3, 3 => true
  | 4, 3 => true
  | 3, 4 => true
  | _, _ => false

theorem agree_3l {Γ : Pures} {a b : Op} (h : agree Γ a b = true) (ha : cls Γ a = 3) : cls Γ b = 0 ∨ cls Γ b = 1 ∨ cls Γ b = 3 ∨ cls Γ b = 4 := by
  unfold agree at h
  rw [ha] at h
  revert h
  split <;> simp_all
theorem agree_3r {Γ : Pures} {a b : Op} (h : agree Γ a b = true) (hb : cls Γ b = 3) : cls Γ a = 0 ∨ cls Γ a = 1 ∨ cls Γ a = 3 ∨ cls Γ a = 4 := by
  unfold agree at h
  rw [hb] at h
  revert h
  split <;> simp_all
theorem agree_4l {Γ : Pures} {a b : Op} (h : agree Γ a b = true) (ha : cls Γ a = 4) : cls Γ b = 0 ∨ cls Γ b = 3 := by
  unfold agree at h
  rw [ha] at h
  revert h
  split <;> simp_all
theorem agree_4r {Γ : Pures} {a b : Op} (h : agree Γ a b = true) (hb : cls Γ b = 4) : cls Γ a = 0 ∨ cls Γ a = 3 := by
  unfold agree at h
  rw [hb] at h
  revert h
  split <;> simp_all

theorem agree_left {Γ : Pures} {a b : Op} (h : agree Γ a b = true) (ha : cls Γ a = 2) : cls Γ b = 0 := by
  unfold agree at h
  rw [ha] at h
  revert h
  split <;> simp_all

theorem agree_right {Γ : Pures} {a b : Op} (h : agree Γ a b = true) (hb : cls Γ b = 2) : cls Γ a = 0 := by
  unfold agree at h
  rw [hb] at h
  revert h
  split <;> simp_all

theorem opHeap_cls {Γ : Pures} {o : Op} (h : cls Γ o ≠ 3) : opHeap o = false := by
  unfold cls at h
  split at h
  · rfl
  · rfl
  · rfl
  · rfl
  · rfl
  · exact Classical.byContradiction fun hh => h (if_pos (by simpa using hh))

theorem todoN_plain_keys {P : Program} {Γ : Pures} {ops : Array Oper} {o : Oper} {ts : List AV} {σ : Heap} {r : PV (AV × Ups)} (h : todoN P Γ ops o ts σ = .plain r) :
    (∀ k ∈ r.val.2.map (·.1), k ∈ wr Γ o ts) ∧ (opHeap o.op = false → r.val.2 = []) := by
  have hB : todoB P Γ o ts σ = .plain r → (∀ k ∈ r.val.2.map (·.1), k ∈ wr Γ o ts) ∧ (opHeap o.op = false → r.val.2 = []) := fun h => by
    unfold todoB at h
    split at h
    · split at h
      · cases h
      · split at h
        · cases h
        · split at h <;> cases h
    · split at h
      · cases h
      · simp only [Todo.plain.injEq] at h
        subst h
        refine ⟨fun k hk => ?_, fun hp => semOp_noups hp⟩
        unfold wr
        split
        · rename_i hq
          rw [semOp_quiet hq] at hk
          simp at hk
        · exact semOp_keys k hk
  unfold todoN at h
  split at h
  · exact hB h
  · split at h
    · split at h
      · exact hB h
      · cases h; exact ⟨by simp, fun _ => rfl⟩
    · cases h; exact ⟨by simp, fun _ => rfl⟩
    · cases h; exact ⟨by simp, fun _ => rfl⟩

theorem todoN_shape {P : Program} {Γ : Pures} {ops : Array Oper} {o : Oper} {ts : List AV} {σ : Heap} :
    (∀ f args R, todoN P Γ ops o ts σ = .pure f args R → cls Γ o.op = 1 ∨ cls Γ o.op = 2) ∧ (∀ S, todoN P Γ ops o ts σ = .call S → cls Γ o.op = 2) ∧
    (∀ S fp, todoN P Γ ops o ts σ = .loc S fp → cls Γ o.op = 4 ∧ fp = fpOf Γ o ts) := by
  have hB : (∀ f args R, todoB P Γ o ts σ = .pure f args R → cls Γ o.op = 1 ∨ cls Γ o.op = 2) ∧ (∀ S, todoB P Γ o ts σ = .call S → cls Γ o.op = 2) ∧
      (∀ S fp, todoB P Γ o ts σ = .loc S fp → cls Γ o.op = 4 ∧ fp = fpOf Γ o ts) := by
    unfold todoB fpOf
    generalize o.op = op
    cases op with
    | call c =>
      obtain ⟨ce, xs, tys⟩ := c
      cases ce with
      | value g =>
        cases hc : callOf (evO ts) (Op.call { callee := Callee.value g, args := xs, argTypes := tys }) with
        | none => simp [nxOf]
        | some fa =>
          obtain ⟨f, args⟩ := fa
          simp only
          cases hl : Γ.lc with
          | true =>
            have h4 : cls Γ (Op.call { callee := Callee.value g, args := xs, argTypes := tys }) = 4 := by
              cases g <;> simp [cls, hl]
            refine ⟨by simp, by simp, fun S fp h => ⟨h4, ?_⟩⟩
            simp only [Todo.loc.injEq] at h
            exact h.2.symm
          | false =>
            have h12 : cls Γ (Op.call { callee := Callee.value g, args := xs, argTypes := tys }) = 1 ∨ cls Γ (Op.call { callee := Callee.value g, args := xs, argTypes := tys }) = 2 := by
              cases g with
              | func f =>
                simp only [cls, hl]
                split
                · simp_all
                · split <;> simp
              | _ => simp [cls, hl]
            have h2 : Γ.p f = none → cls Γ (Op.call { callee := Callee.value g, args := xs, argTypes := tys }) = 2 := fun hp => by
              cases g with
              | func f' =>
                simp only [callOf, evO, Option.some.injEq, Prod.mk.injEq] at hc
                simp [cls, hl, hc.1, hp]
              | _ => simp [cls, hl]
            simp only
            cases hp : Γ.p f with
            | none =>
              simp only
              cases Γ.h f with
              | none => exact ⟨by simp, fun S _ => h2 hp, by simp⟩
              | some c => exact ⟨by simp, fun S _ => h2 hp, by simp⟩
            | some c => exact ⟨fun _ _ _ _ => h12, by simp, by simp⟩
      | builtin b => exact ⟨fun f args R h => by simp [callOf, nxOf] at h, fun S h => by simp [callOf, nxOf] at h, fun S fp h => by simp [callOf, nxOf] at h⟩
      | invoke r m => exact ⟨fun f args R h => by simp [callOf, nxOf] at h, fun S h => by simp [callOf, nxOf] at h, fun S fp h => by simp [callOf, nxOf] at h⟩
    | range t x => exact ⟨fun f args R h => .inr rfl, fun S h => rfl, fun S fp h => by simp only [callOf] at h; split at h <;> cases h⟩
    | next x b => exact ⟨fun f args R h => .inr rfl, fun S h => rfl, fun S fp h => by simp only [callOf] at h; split at h <;> cases h⟩
    | entry x => exact ⟨fun f args R h => .inr rfl, fun S h => rfl, fun S fp h => by simp only [callOf] at h; split at h <;> cases h⟩
    | _ => exact ⟨fun f args R h => by simp [callOf, nxOf] at h, fun S h => by simp [callOf, nxOf] at h, fun S fp h => by simp [callOf, nxOf] at h⟩
  unfold todoN
  split
  · exact hB
  · split
    · split
      · exact hB
      · exact ⟨fun f args R h => (by cases h), fun S h => (by cases h), fun S fp h => (by cases h)⟩
    · exact ⟨fun f args R h => (by cases h), fun S h => (by cases h), fun S fp h => (by cases h)⟩
    · exact ⟨fun f args R h => (by cases h), fun S h => (by cases h), fun S fp h => (by cases h)⟩

/-- must two operations be apart to change places -/
def near (Γ : Pures) (a b : Op) : Bool := (cls Γ a == 3 && cls Γ b == 3) || (cls Γ a == 4 && cls Γ b == 3) || (cls Γ a == 3 && cls Γ b == 4)

theorem swap {P : Program} {Γ : Pures} {ops : Array Oper} {oj oi : Oper} {K : St → Prop} {st : St}
    (h1 : ∀ d, oj.dst = some d → d ∉ oi.looksAt ops) (h2 : ∀ d, oi.dst = some d → d ∉ oj.looksAt ops) (h3 : ∀ d, oj.dst = some d → oi.dst ≠ some d)
    (hc : agree Γ oj.op oi.op = true) (hap : near Γ oj.op oi.op = true → apart2 Γ oj oi st.tmps = true)
    (h : opN P Γ ops oj (opN P Γ ops oi K) st) : opN P Γ ops oi (opN P Γ ops oj K) st := by
  obtain ⟨ts, σ⟩ := st
  simp only [opN_iff] at h ⊢
  -- what each is about to do stays the same
  have Fi : ∀ v σ', (σ' = σ ∨ cls Γ oi.op = 1 ∨ (cls Γ oi.op = 4 ∧ EqOn σ' σ (fpOf Γ oi ts).1) ∨ (isCallV oi.op = false ∧ (opHeap oi.op = false ∨ EqOn σ' σ (kys Γ oi ts)))) → todoN P Γ ops oi (putL ts oj.dst v) σ' = todoN P Γ ops oi ts σ := fun v σ' hh => todoN_eq (SameAt.putL h1) hh
  have Fj : ∀ v σ', (σ' = σ ∨ cls Γ oj.op = 1 ∨ (cls Γ oj.op = 4 ∧ EqOn σ' σ (fpOf Γ oj ts).1) ∨ (isCallV oj.op = false ∧ (opHeap oj.op = false ∨ EqOn σ' σ (kys Γ oj ts)))) → todoN P Γ ops oj (putL ts oi.dst v) σ' = todoN P Γ ops oj ts σ := fun v σ' hh => todoN_eq (SameAt.putL h2) hh
  have hcm : ∀ v w, putL (putL ts oj.dst v) oi.dst w = putL (putL ts oi.dst w) oj.dst v := fun v w => putL_comm h3
  have eqOn0 : ∀ {ks}, EqOn σ σ ks := fun _ _ => rfl
  have eqOnU : ∀ {u : Ups} {ks : List Nat}, (∀ k ∈ u.map (·.1), k ∉ ks) → EqOn (updAll σ u) σ ks := fun hu k hk => updAll_other fun hk' => hu k hk' hk
  have Si := todoN_shape (P := P) (Γ := Γ) (ops := ops) (o := oi) (ts := ts) (σ := σ)
  have Sj := todoN_shape (P := P) (Γ := Γ) (ops := ops) (o := oj) (ts := ts) (σ := σ)
  have heap3 : ∀ {o : Oper}, opHeap o.op = true → cls Γ o.op = 3 := fun {o} a => Classical.byContradiction fun x => by rw [opHeap_cls x] at a; cases a
  have noCall : ∀ {o : Oper}, cls Γ o.op = 0 ∨ cls Γ o.op = 3 → isCallV o.op = false := fun {o} a => by
    cases h : isCallV o.op with
    | false => rfl
    | true => rcases callV_cls (Γ := Γ) h with e | e | e <;> omega
  have apS : opHeap oj.op = true → opHeap oi.op = true → (∀ k ∈ wr Γ oj ts, k ∉ kys Γ oi ts) ∧ (∀ k ∈ wr Γ oi ts, k ∉ kys Γ oj ts) := fun a b => by
    have c1 := heap3 a
    have c2 := heap3 b
    have := hap (by simp [near, c1, c2])
    unfold apart2 at this
    rw [if_neg (by omega), if_neg (by omega)] at this
    simp only [Bool.and_eq_true, List.all_eq_true, Bool.not_eq_true', List.contains_eq_mem, decide_eq_false_iff_not] at this
    exact this
  have ap4j : cls Γ oj.op = 4 → cls Γ oi.op = 3 → ∀ k ∈ kys Γ oi ts, inFp (fpOf Γ oj ts) k = false := fun c1 c2 => by
    have := hap (by simp [near, c1, c2])
    unfold apart2 at this
    rw [if_pos c1] at this
    simpa using this
  have ap4i : cls Γ oi.op = 4 → cls Γ oj.op = 3 → ∀ k ∈ kys Γ oj ts, inFp (fpOf Γ oi ts) k = false := fun c1 c2 => by
    have := hap (by simp [near, c1, c2])
    unfold apart2 at this
    rw [if_neg (by omega), if_pos c1] at this
    simpa using this
  have wrk : ∀ {o : Oper} {k : Nat}, k ∈ wr Γ o ts → k ∈ kys Γ o ts := fun {o k} h => by
    unfold wr at h
    split at h
    · simp at h
    · exact h
  have fpk : ∀ {fp : List Nat × Nat × Nat} {k : Nat}, inFp fp k = false → ¬ k ∈ fp.1 ∧ ∀ τ : Heap, FreshK fp σ τ → τ k = none := fun {fp k} h => by
    unfold inFp at h
    simp only [Bool.or_eq_false_iff, Bool.and_eq_false_iff, decide_eq_false_iff_not, List.contains_eq_mem] at h
    refine ⟨h.1, fun τ hf => Classical.byContradiction fun hn => ?_⟩
    rcases hf k hn with h1 | h1
    · exact h.1 (by simpa using h1)
    · rcases h.2 with h2 | h2
      · exact h2 h1.1
      · exact h2 h1.2.1
  generalize hsj : todoN P Γ ops oj ts σ = sj at *
  generalize hsi : todoN P Γ ops oi ts σ = si at *
  rw [Todo.run_iff] at h
  rw [Todo.run_iff]
  cases sj with
  | plain rj =>
    have kj := todoN_plain_keys hsj
    simp only [opN_iff] at h
    have e1 : updAll σ rj.val.2 = σ ∨ cls Γ oi.op = 1 ∨ (cls Γ oi.op = 4 ∧ EqOn (updAll σ rj.val.2) σ (fpOf Γ oi ts).1) ∨ (isCallV oi.op = false ∧ (opHeap oi.op = false ∨ EqOn (updAll σ rj.val.2) σ (kys Γ oi ts))) := by
      cases hj : opHeap oj.op with
      | false => rw [kj.2 hj]; exact .inl rfl
      | true =>
        have c3 := heap3 hj
        have fin : cls Γ oi.op = 0 ∨ cls Γ oi.op = 3 → isCallV oi.op = false ∧ (opHeap oi.op = false ∨ EqOn (updAll σ rj.val.2) σ (kys Γ oi ts)) := fun c => by
          refine ⟨noCall c, ?_⟩
          cases hi : opHeap oi.op with
          | false => exact .inl rfl
          | true => exact .inr (eqOnU fun k hk => (apS hj hi).1 k (kj.1 k hk))
        rcases agree_3l hc c3 with c | c | c | c
        · exact .inr (.inr (.inr (fin (.inl c))))
        · exact .inr (.inl c)
        · exact .inr (.inr (.inr (fin (.inr c))))
        · exact .inr (.inr (.inl ⟨c, eqOnU fun k hk hkf => (fpk (ap4i c c3 k (wrk (kj.1 k hk)))).1 hkf⟩))
    rw [Fi _ _ e1, Todo.run_iff] at h
    cases si with
    | plain ri =>
      have ki := todoN_plain_keys hsi
      have e2 : updAll σ ri.val.2 = σ ∨ cls Γ oj.op = 1 ∨ (cls Γ oj.op = 4 ∧ EqOn (updAll σ ri.val.2) σ (fpOf Γ oj ts).1) ∨ (isCallV oj.op = false ∧ (opHeap oj.op = false ∨ EqOn (updAll σ ri.val.2) σ (kys Γ oj ts))) := by
        cases hi : opHeap oi.op with
        | false => rw [ki.2 hi]; exact .inl rfl
        | true =>
          have c3 := heap3 hi
          have fin : cls Γ oj.op = 0 ∨ cls Γ oj.op = 3 → isCallV oj.op = false ∧ (opHeap oj.op = false ∨ EqOn (updAll σ ri.val.2) σ (kys Γ oj ts)) := fun c => by
            refine ⟨noCall c, ?_⟩
            cases hj : opHeap oj.op with
            | false => exact .inl rfl
            | true => exact .inr (eqOnU fun k hk => (apS hj hi).2 k (ki.1 k hk))
          rcases agree_3r hc c3 with c | c | c | c
          · exact .inr (.inr (.inr (fin (.inl c))))
          · exact .inr (.inl c)
          · exact .inr (.inr (.inr (fin (.inr c))))
          · exact .inr (.inr (.inl ⟨c, eqOnU fun k hk hkf => (fpk (ap4j c c3 k (wrk (ki.1 k hk)))).1 hkf⟩))
      have e3 : ∀ k ∈ rj.val.2.map (·.1), k ∉ ri.val.2.map (·.1) := fun k hk hk' => by
        cases hj : opHeap oj.op with
        | false => rw [kj.2 hj] at hk; simp at hk
        | true =>
          cases hi : opHeap oi.op with
          | false => rw [ki.2 hi] at hk'; simp at hk'
          | true =>
            refine (apS hj hi).1 k (kj.1 k hk) ?_
            have := ki.1 k hk'
            unfold wr at this
            split at this
            · simp at this
            · exact this
      simp only [opN_iff]
      rw [Fj _ _ e2, Todo.run_iff]
      refine ⟨h.2.1, h.1, ?_⟩
      rw [← hcm, ← updAll_comm e3]
      exact h.2.2
    | pure f args R =>
      refine ⟨h.2.1, fun r hr => ?_⟩
      simp only [opN_iff]
      rw [Fj r σ (.inl rfl), Todo.run_iff]
      refine ⟨h.1, ?_⟩
      rw [← hcm]
      exact h.2.2 r hr
    | call S =>
      have ci := Si.2.1 _ rfl
      have cj := agree_right hc ci
      have hj : opHeap oj.op = false := opHeap_cls (Γ := Γ) (by omega)
      have hu := kj.2 hj
      obtain ⟨hd, R, c1, c2⟩ := h
      refine ⟨R, c1, fun r σ' hr => ?_⟩
      simp only [opN_iff]
      rw [Fj r σ' (.inr (.inr (.inr ⟨noCall (.inl cj), .inl hj⟩))), Todo.run_iff]
      refine ⟨hd, ?_⟩
      rw [← hcm, hu]
      exact c2 r σ' hr
    | loc S fp =>
      obtain ⟨ci, rfl⟩ := Si.2.2 _ _ rfl
      have cj := agree_4r hc ci
      obtain ⟨hd, R, c1, c2⟩ := h
      -- what the plain one writes, the call neither reaches nor makes
      have hap4 : ∀ k ∈ rj.val.2.map (·.1), inFp (fpOf Γ oi ts) k = false := fun k hk => by
        rcases cj with c | c
        · rw [kj.2 (opHeap_cls (Γ := Γ) (by omega))] at hk; simp at hk
        · exact ap4i ci c k (wrk (kj.1 k hk))
      have hfr : ∀ τ, FreshK (fpOf Γ oi ts) (updAll σ rj.val.2) τ → FreshK (fpOf Γ oi ts) σ τ := fun τ hf k hk => by
        rcases hf k hk with h1 | ⟨h1, h2, h3⟩
        · exact .inl h1
        · refine .inr ⟨h1, h2, ?_⟩
          rw [updAll_other] at h3
          · exact h3
          · intro hk'
            have := hap4 k hk'
            simp [inFp, h1, h2] at this
      refine ⟨R, c1, fun r τ hr => ⟨hfr τ (c2 r τ hr).1, ?_⟩⟩
      simp only [opN_iff]
      have hF' := hfr τ (c2 r τ hr).1
      have e2 : isCallV oj.op = false ∧ (opHeap oj.op = false ∨ EqOn (mrgH σ τ) σ (kys Γ oj ts)) := by
        refine ⟨noCall cj, ?_⟩
        rcases cj with c | c
        · exact .inl (opHeap_cls (Γ := Γ) (by omega))
        · refine .inr fun k hk => ?_
          unfold mrgH
          rw [(fpk (ap4i ci c k hk)).2 τ hF']
      rw [Fj r _ (.inr (.inr (.inr e2))), Todo.run_iff]
      refine ⟨hd, ?_⟩
      rw [← hcm, mrg_upd fun k hk => (fpk (hap4 k hk)).2 τ hF']
      exact (c2 r τ hr).2
  | pure f args R =>
    simp only [opN_iff] at h
    obtain ⟨h0, h⟩ := h
    have hF : ∀ r, todoN P Γ ops oi (putL ts oj.dst r) σ = si := fun r => Fi r σ (.inl rfl)
    obtain ⟨r0, hr0⟩ := h0.2.2
    have hz := h r0 hr0
    rw [hF, Todo.run_iff] at hz
    have cj := Sj.1 _ _ _ rfl
    cases si with
    | plain ri =>
      have ki := todoN_plain_keys hsi
      refine ⟨hz.1, ?_⟩
      simp only [opN_iff]
      have e2 : updAll σ ri.val.2 = σ ∨ cls Γ oj.op = 1 ∨ (cls Γ oj.op = 4 ∧ EqOn (updAll σ ri.val.2) σ (fpOf Γ oj ts).1) ∨ (isCallV oj.op = false ∧ (opHeap oj.op = false ∨ EqOn (updAll σ ri.val.2) σ (kys Γ oj ts))) := by
        rcases cj with c | c
        · exact .inr (.inl c)
        · have := agree_left hc c
          rw [ki.2 (opHeap_cls (Γ := Γ) (by omega))]; exact .inl rfl
      rw [Fj _ _ e2, Todo.run_iff]
      refine ⟨h0, fun r hr => ?_⟩
      have := h r hr
      rw [hF, Todo.run_iff] at this
      rw [← hcm]
      exact this.2
    | pure g xs R' =>
      refine ⟨hz.1, fun r' hr' => ?_⟩
      simp only [opN_iff]
      rw [Fj _ _ (.inl rfl), Todo.run_iff]
      refine ⟨h0, fun r hr => ?_⟩
      have := h r hr
      rw [hF, Todo.run_iff] at this
      rw [← hcm]
      exact this.2 r' hr'
    | call S =>
      have ci := Si.2.1 _ rfl
      have := agree_right hc ci
      rcases cj with cj | cj <;> omega
    | loc S fp =>
      obtain ⟨ci, _⟩ := Si.2.2 _ _ rfl
      have := agree_4r hc ci
      rcases cj with cj | cj <;> omega
  | loc S fp =>
    obtain ⟨cj, rfl⟩ := Sj.2.2 _ _ rfl
    have ci := agree_4l hc cj
    obtain ⟨R, ⟨c1, r0, τ0, hr0⟩, c4⟩ := h
    cases si with
    | plain ri =>
      have ki := todoN_plain_keys hsi
      have hap4 : ∀ k ∈ ri.val.2.map (·.1), inFp (fpOf Γ oj ts) k = false := fun k hk => by
        rcases ci with c | c
        · rw [ki.2 (opHeap_cls (Γ := Γ) (by omega))] at hk; simp at hk
        · exact ap4j cj c k (wrk (ki.1 k hk))
      have hG : ∀ r τ, R r τ → FreshK (fpOf Γ oj ts) σ τ ∧ ri.dom ∧ K ⟨putL (putL ts oj.dst r) oi.dst ri.val.1, updAll (mrgH σ τ) ri.val.2⟩ := fun r τ hr => by
        obtain ⟨hF, h2⟩ := c4 r τ hr
        refine ⟨hF, ?_⟩
        simp only [opN_iff] at h2
        have e2 : isCallV oi.op = false ∧ (opHeap oi.op = false ∨ EqOn (mrgH σ τ) σ (kys Γ oi ts)) := by
          refine ⟨noCall ci, ?_⟩
          rcases ci with c | c
          · exact .inl (opHeap_cls (Γ := Γ) (by omega))
          · refine .inr fun k hk => ?_
            unfold mrgH
            rw [(fpk (ap4j cj c k hk)).2 τ hF]
        rw [Fi r _ (.inr (.inr (.inr e2))), Todo.run_iff] at h2
        exact h2
      refine ⟨(hG r0 τ0 hr0).2.1, ?_⟩
      simp only [opN_iff]
      rw [Fj _ _ (.inr (.inr (.inl ⟨cj, eqOnU fun k hk hkf => (fpk (hap4 k hk)).1 hkf⟩))), Todo.run_iff]
      refine ⟨R, ⟨c1, r0, τ0, hr0⟩, fun r τ hr => ?_⟩
      obtain ⟨hF, _, hK⟩ := hG r τ hr
      refine ⟨fun k hk => ?_, ?_⟩
      · rcases hF k hk with h1 | ⟨h1, h2, h3⟩
        · exact .inl h1
        · refine .inr ⟨h1, h2, ?_⟩
          rw [updAll_other]
          · exact h3
          · intro hk'
            have := hap4 k hk'
            simp [inFp, h1, h2] at this
      · rw [← hcm, ← mrg_upd fun k hk => (fpk (hap4 k hk)).2 τ hF]
        exact hK
    | pure g xs R' => rcases Si.1 _ _ _ rfl with e | e <;> omega
    | call S => have := Si.2.1 _ rfl; omega
    | loc S fp => obtain ⟨c, _⟩ := Si.2.2 _ _ rfl; omega
  | call S =>
    have cj := Sj.2.1 _ rfl
    have ci : cls Γ oi.op = 0 := agree_left hc cj
    have hi : opHeap oi.op = false := opHeap_cls (Γ := Γ) (by omega)
    have hii : isCallV oi.op = false := noCall (.inl ci)
    obtain ⟨R, ⟨c1, r0, σ0, hr0⟩, c4⟩ := h
    cases si with
    | plain ri =>
      have hu := (todoN_plain_keys hsi).2 hi
      have hG : ∀ r σ', R r σ' → ri.dom ∧ K ⟨putL (putL ts oj.dst r) oi.dst ri.val.1, updAll σ' ri.val.2⟩ := fun r σ' hr => by
        have := c4 r σ' hr
        simp only [opN_iff] at this
        rw [Fi _ _ (.inr (.inr (.inr ⟨hii, .inl hi⟩))), Todo.run_iff] at this
        exact this
      refine ⟨(hG r0 σ0 hr0).1, ?_⟩
      simp only [opN_iff]
      have e0 : updAll σ ([] : Ups) = σ := rfl
      rw [hu, e0]
      rw [Fj _ _ (.inl rfl), Todo.run_iff]
      refine ⟨R, ⟨c1, r0, σ0, hr0⟩, fun r σ' hr => ?_⟩
      have := (hG r σ' hr).2
      rw [hu, hcm] at this
      exact this
    | pure g xs R' => rcases Si.1 _ _ _ rfl with e | e <;> omega
    | call S => have := Si.2.1 _ rfl; omega
    | loc S fp => obtain ⟨c, _⟩ := Si.2.2 _ _ rfl; omega

end Go.Dm
