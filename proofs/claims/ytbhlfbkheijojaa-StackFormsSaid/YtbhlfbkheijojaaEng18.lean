/-
  Regions whose order is drawn: what holds in the order of the text holds in each order that may be drawn.
  Conditions: the region passes the test 'drawOK', and what it writes is apart from what is looked at beside it.
-/
import Derived.Test.YtbhlfbkheijojaaEng17
namespace Go.Dm

/-- what an operation is about to do -/
inductive Todo where
  | plain (r : PV (AV × Ups))
  | pure (f : FuncId) (args : List AV) (R : AV → Prop)
  | call (S : (AV → Heap → Prop) → Prop)
  | loc (S : (AV → Heap → Prop) → Prop) (fp : List Nat × Nat × Nat)

def todoB (P : Program) (Γ : Pures) (o : Oper) (ts : List AV) (σ : Heap) : Todo :=
  match callOf (evO ts) o.op with
  | some (f, args) =>
    match Γ.lc with
    | true => .loc (fun R => callable P f = true ∧ ClosedK args (resH σ (Γ.fp o.dst).1) (Γ.fp o.dst).1 ∧ FSpec P f args (resH σ (Γ.fp o.dst).1) R) (Γ.fp o.dst)
    | false =>
      match Γ.p f with
      | some c => .pure f args (c args).R
      | none =>
        match Γ.h f with
        | some c => .call fun R => callable P f = true ∧ FSpec P f args σ R ∧ R = (c args σ).R
        | none => .call fun R => Γ.ex = true ∧ callable P f = true ∧ FSpec P f args σ R
  | none =>
    match nxOf P (dkey Γ o) (evO ts) o.op σ with
    | some r => .call fun R => r.dom ∧ R = fun v σ' => ∃ x ∈ r.val, v = x.1 ∧ σ' = updAll σ x.2
    | none => .plain (semOp P (dkey Γ o) (evO ts) o.op σ)

def todoN (P : Program) (Γ : Pures) (ops : Array Oper) (o : Oper) (ts : List AV) (σ : Heap) : Todo :=
  match o.guard with
  | none => todoB P Γ o ts σ
  | some (j, b) =>
    match gval ops ts j with
    | .t (.bool c) => if c = b then todoB P Γ o ts σ else .plain ⟨True, (.tup [], [])⟩
    | .tup [] => .plain ⟨True, (.tup [], [])⟩
    | _ => .plain ⟨False, (.tup [], [])⟩

def Todo.run (P : Program) (s : Todo) (d : Option Tmp) (K : St → Prop) (st : St) : Prop :=
  match s with
  | .plain r => r.dom ∧ K { (st.put d r.val.1) with σ := updAll st.σ r.val.2 }
  | .pure f args R => PSpec P f args R ∧ ∀ r, R r → K (st.put d r)
  | .call S => ∃ R, (S R ∧ ∃ r σ', R r σ') ∧ ∀ r σ', R r σ' → K { (st.put d r) with σ := σ' }
  | .loc S fp => ∃ R, (S R ∧ ∃ r τ, R r τ) ∧ ∀ r τ, R r τ → FreshK fp st.σ τ ∧ K { (st.put d r) with σ := mrgH st.σ τ }

theorem put_eta {st : St} {d : Option Tmp} {v : AV} : ({ (st.put d v) with σ := st.σ } : St) = st.put d v := by unfold St.put; split <;> rfl

theorem skip_iff {P : Program} {d : Option Tmp} {K : St → Prop} {st : St} : (Todo.plain ⟨True, (.tup [], [])⟩).run P d K st ↔ K (st.put d (.tup [])) := by
  show (True ∧ K ({ (st.put d (.tup [])) with σ := st.σ } : St)) ↔ _
  rw [put_eta]; simp

theorem opB_iff {P : Program} {Γ : Pures} {o : Oper} {K : St → Prop} {st : St} : opB P Γ o K st ↔ (todoB P Γ o st.tmps st.σ).run P o.dst K st := by
  unfold opB todoB
  cases callOf (evO st.tmps) o.op with
  | none =>
    simp only
    cases nxOf P (dkey Γ o) (evO st.tmps) o.op st.σ with
    | none => exact Iff.rfl
    | some r =>
      simp only [Todo.run]
      refine ⟨fun ⟨⟨h1, h2⟩, h3⟩ => ⟨_, ⟨⟨h1, rfl⟩, ?_⟩, fun v σ' ⟨x, hx, e1, e2⟩ => by subst e1; subst e2; exact h3 x hx⟩, ?_⟩
      · obtain ⟨x, hx⟩ := List.exists_mem_of_ne_nil _ h2
        exact ⟨_, _, x, hx, rfl, rfl⟩
      · rintro ⟨R, ⟨⟨h1, rfl⟩, v, σ', x, hx, _⟩, h3⟩
        exact ⟨⟨h1, List.ne_nil_of_mem hx⟩, fun y hy => h3 _ _ ⟨y, hy, rfl, rfl⟩⟩
  | some fa =>
    obtain ⟨f, args⟩ := fa
    simp only
    cases Γ.lc with
    | true => exact Iff.rfl
    | false =>
      simp only
      cases Γ.p f with
      | none =>
        simp only
        cases Γ.h f with
        | none => exact ⟨fun ⟨h0, R, ⟨h1, h2, h3⟩, h4⟩ => ⟨R, ⟨⟨h0, h1, h2⟩, h3⟩, h4⟩, fun ⟨R, ⟨⟨h0, h1, h2⟩, h3⟩, h4⟩ => ⟨h0, R, ⟨h1, h2, h3⟩, h4⟩⟩
        | some c =>
          simp only [Todo.run]
          refine ⟨fun ⟨⟨h1, h2, x, hx⟩, h4⟩ => ⟨_, ⟨⟨h1, h2, rfl⟩, _, _, x, hx, rfl, rfl⟩, fun r σ' ⟨x, hx, e1, e2⟩ => by subst e1; subst e2; exact h4 x hx⟩, ?_⟩
          rintro ⟨R, ⟨⟨h1, h2, rfl⟩, r, σ', x, hx, _⟩, h4⟩
          exact ⟨⟨h1, h2, x, hx⟩, fun x hx => h4 _ _ ⟨x, hx, rfl, rfl⟩⟩
      | some c => exact ⟨fun h => ⟨h.1, fun r ⟨x, hx, hr⟩ => by subst hr; exact h.2 x hx⟩, fun h => ⟨h.1, fun x hx => h.2 _ ⟨x, hx, rfl⟩⟩⟩

theorem opN_iff {P : Program} {Γ : Pures} {ops : Array Oper} {o : Oper} {K : St → Prop} {st : St} : opN P Γ ops o K st ↔ (todoN P Γ ops o st.tmps st.σ).run P o.dst K st := by
  unfold opN todoN
  cases o.guard with
  | none => exact opB_iff
  | some jb =>
    obtain ⟨j, b⟩ := jb
    simp only
    generalize gval ops st.tmps j = g
    split
    · rename_i c
      dsimp only
      by_cases h : c = b
      · subst h
        rw [if_pos rfl, ← opB_iff]
        exact ⟨fun h => h.1 rfl, fun h => ⟨fun _ => h, fun e => by cases c <;> simp at e⟩⟩
      · rw [if_neg h, skip_iff]
        have hb : c = !b := by cases c <;> cases b <;> simp_all
        exact ⟨fun k => k.2 hb, fun k => ⟨fun e => (h e).elim, fun _ => k⟩⟩
    · exact skip_iff.symm
    · rename_i h1 h2
      refine ⟨fun h => h.elim, fun h => ?_⟩
      split at h
      · exact (h1 _ rfl).elim
      · exact (h2 rfl).elim
      · exact h.1.elim

theorem St.put_σ {st : St} {d : Option Tmp} {v : AV} : (st.put d v).σ = st.σ := by unfold St.put; split <;> rfl

theorem Todo.run_mono {P : Program} {s : Todo} {d : Option Tmp} {K K' : St → Prop} {st : St} (h : s.run P d K st) (hk : ∀ st, K st → K' st) : s.run P d K' st := by
  cases s with
  | plain r => exact ⟨h.1, hk _ h.2⟩
  | pure f args R => exact ⟨h.1, fun r hr => hk _ (h.2 r hr)⟩
  | call S => obtain ⟨R, h1, h2⟩ := h; exact ⟨R, h1, fun r s hr => hk _ (h2 r s hr)⟩
  | loc S fp => obtain ⟨R, h1, h2⟩ := h; exact ⟨R, h1, fun r s hr => ⟨(h2 r s hr).1, hk _ (h2 r s hr).2⟩⟩

/-- the next state, one of them, and what it has kept -/
theorem Todo.run_some {P : Program} {s : Todo} {d : Option Tmp} {K : St → Prop} {st : St} (h : s.run P d K st) : ∃ v σ', K { (st.put d v) with σ := σ' } := by
  cases s with
  | plain r => exact ⟨_, _, h.2⟩
  | pure f args R =>
    obtain ⟨⟨_, _, r, hr⟩, h2⟩ := h
    refine ⟨r, st.σ, ?_⟩
    have := h2 r hr
    have e : ({ (st.put d r) with σ := st.σ } : St) = st.put d r := by unfold St.put; split <;> rfl
    rw [e]; exact this
  | call S => obtain ⟨R, ⟨_, r, s, hr⟩, h4⟩ := h; exact ⟨r, s, h4 r s hr⟩
  | loc S fp => obtain ⟨R, ⟨_, r, s, hr⟩, h4⟩ := h; exact ⟨r, _, (h4 r s hr).2⟩

theorem put_get {st : St} {d : Option Tmp} {v : AV} {s : Nat} {z : AV} (h : d ≠ some s) : (st.put d v).tmps.getD s z = st.tmps.getD s z := by
  unfold St.put
  cases d with
  | none => rfl
  | some d =>
    have : d ≠ s := fun e => h (by rw [e])
    simp only [List.getD_eq_getElem?_getD, List.getElem?_set, this, if_false]

/-- an operation looks at the slots that it names alone -/
theorem semOp_ev {P : Program} {d : Nat} {ev ev' : Operand → AV} {o : Op} {σ : Heap} (h : ∀ x ∈ o.operands.toList, ev x = ev' x) : semOp P d ev o σ = semOp P d ev' o σ := by
  have arr : ∀ l : Array Operand, (∀ x ∈ l.toList, x ∈ o.operands.toList) → l.toList.map ev = l.toList.map ev' := fun l hl => List.map_congr_left fun x hx => h x (hl x hx)
  have parts : ∀ l : Array (Nat × Operand), (∀ x ∈ l.toList, x.2 ∈ o.operands.toList) → (l.toList.map fun p => (p.1, ev p.2)) = l.toList.map fun p => (p.1, ev' p.2) := fun l hl => List.map_congr_left fun x hx => by rw [h x.2 (hl x hx)]
  have parts2 : ∀ l : Array (Nat × Operand), (∀ x ∈ l.toList, x.2 ∈ o.operands.toList) → (l.toList.map fun p => ev p.2) = l.toList.map fun p => ev' p.2 := fun l hl => List.map_congr_left fun x hx => by rw [h x.2 (hl x hx)]
  have opt : ∀ l : Option Operand, (∀ x ∈ l, x ∈ o.operands.toList) → l.map ev = l.map ev' := fun l hl => by
    cases l with
    | none => rfl
    | some x => simp only [Option.map_some]; rw [h x (hl x rfl)]
  cases o with
  | alloc t => rfl
  | ready t => rfl
  | waits t => rfl
  | move x => simp only [semOp]; rw [h x (by simp [Op.operands])]
  | assign x => simp only [semOp]; rw [h x (by simp [Op.operands])]
  | box t x => simp only [semOp]; rw [h x (by simp [Op.operands])]
  | load t x => simp only [semOp]; rw [h x (by simp [Op.operands])]
  | nilCheck x => simp only [semOp]; rw [h x (by simp [Op.operands])]
  | unOp a b x => simp only [semOp]; rw [h x (by simp [Op.operands])]
  | convert a b x => simp only [semOp]; rw [h x (by simp [Op.operands])]
  | fieldAddr a x b => simp only [semOp]; rw [h x (by simp [Op.operands])]
  | extract x i => simp only [semOp]; rw [h x (by simp [Op.operands])]
  | pick c a b => simp only [semOp]; rw [h c (by simp [Op.operands]), h a (by simp [Op.operands]), h b (by simp [Op.operands])]
  | build t ps => simp only [semOp]; rw [parts ps (by simp [Op.operands]; intro a b hx; exact ⟨a, hx⟩)]
  | buildSlice t n ps => simp only [semOp]; rw [parts2 ps (by simp [Op.operands]; intro a b hx; exact ⟨a, hx⟩)]
  | store t x y => simp only [semOp]; rw [h x (by simp [Op.operands]), h y (by simp [Op.operands])]
  | binOp a b x y c => simp only [semOp]; rw [h x (by simp [Op.operands]), h y (by simp [Op.operands])]
  | makeSlice t x y => simp only [semOp]; rw [h x (by simp [Op.operands]), h y (by simp [Op.operands])]
  | indexAddr t x y => simp only [semOp]; rw [h x (by simp [Op.operands]), h y (by simp [Op.operands])]
  | field t x f => simp only [semOp]; rw [h x (by simp [Op.operands])]
  | index t x y => simp only [semOp]; rw [h x (by simp [Op.operands]), h y (by simp [Op.operands])]
  | lookup t x y c => simp only [semOp]; rw [h x (by simp [Op.operands]), h y (by simp [Op.operands])]
  | makeFunc f a b =>
    cases f with
    | func f => simp only [semOp]; rw [arr a (by simp [Op.operands]; intro x hx; exact .inl hx), arr b (by simp [Op.operands]; intro x hx; exact .inr hx)]
    | _ => rfl
  | makeMap t r => cases r <;> rfl
  | slice t x lo hi mx =>
    simp only [semOp]
    rw [h x (by simp [Op.operands]), opt lo (by simp [Op.operands]; intro x hx; simp [hx]), opt hi (by simp [Op.operands]; intro x hx; simp [hx]), opt mx (by simp [Op.operands]; intro x hx; simp [hx])]
  | mapUpdate t m k x => simp only [semOp]; rw [h m (by simp [Op.operands]), h k (by simp [Op.operands]), h x (by simp [Op.operands])]
  | insert t m k x => simp only [semOp]; rw [h m (by simp [Op.operands]), h k (by simp [Op.operands]), h x (by simp [Op.operands])]
  | call c =>
    obtain ⟨ce, args, tys⟩ := c
    cases ce with
    | builtin b =>
      simp only [semOp]
      have e := arr args (by simp [Op.operands, Call.operands])
      have e2 : (args.toList.map fun x => sof (ev x)) = args.toList.map fun x => sof (ev' x) := by
        have := congrArg (List.map sof) e
        simpa [List.map_map, Function.comp_def] using this
      rw [e2]
    | value f => rfl
    | invoke r m => rfl
  | _ => rfl

theorem nxOf_ev {P : Program} {d : Nat} {ev ev' : Operand → AV} {o : Op} {σ : Heap} (h : ∀ x ∈ o.operands.toList, ev x = ev' x) : nxOf P d ev o σ = nxOf P d ev' o σ := by
  unfold nxOf
  split
  · rename_i t x; rw [h x (by simp [Op.operands])]
  · rename_i x; rw [h x (by simp [Op.operands])]
  · rename_i x; rw [h x (by simp [Op.operands])]
  · rfl
theorem callOf_ev {ev ev' : Operand → AV} {o : Op} (h : ∀ x ∈ o.operands.toList, ev x = ev' x) : callOf ev o = callOf ev' o := by
  unfold callOf
  cases o with
  | call c =>
    obtain ⟨ce, args, tys⟩ := c
    cases ce with
    | value f =>
      simp only
      rw [h f (by simp [Op.operands, Call.operands]), List.map_congr_left (f := ev) (g := ev') (l := args.toList) fun x hx => h x (by simp [Op.operands, Call.operands]; right; simpa using hx)]
    | _ => rfl
  | _ => rfl

theorem keysOp_ev {d : Nat} {ev ev' : Operand → AV} {o : Op} (h : ∀ x ∈ o.operands.toList, ev x = ev' x) : keysOp d ev o = keysOp d ev' o := by
  unfold keysOp
  congr 1
  have : ∀ l : List Operand, (∀ x ∈ l, ev x = ev' x) → (l.flatMap fun x => keysAV (ev x)) = l.flatMap fun x => keysAV (ev' x) := by
    intro l
    induction l with
    | nil => intro _; rfl
    | cons a r ih => intro h; simp only [List.flatMap_cons]; rw [h a (by simp), ih fun x hx => h x (by simp [hx])]
  exact this _ h

/-- two lists of slots that are the same wherever an operation looks -/
def SameAt (ops : Array Oper) (o : Oper) (ts ts' : List AV) : Prop := ∀ t ∈ o.looksAt ops, ∀ z, ts.getD t z = ts'.getD t z

theorem SameAt.ev {ops : Array Oper} {o : Oper} {ts ts' : List AV} (h : SameAt ops o ts ts') : ∀ x ∈ o.op.operands.toList, evO ts x = evO ts' x := fun x hx => by
  cases x with
  | tmp t => exact h t (by simp only [Oper.looksAt, List.mem_append, List.mem_filterMap]; exact .inl ⟨_, hx, rfl⟩) _
  | _ => rfl

theorem SameAt.gval {ops : Array Oper} {o : Oper} {ts ts' : List AV} (h : SameAt ops o ts ts') {j : Nat} {b : Bool} (hg : o.guard = some (j, b)) : gval ops ts j = gval ops ts' j := by
  unfold Dm.gval
  cases hd : (ops[j]?).bind (·.dst) with
  | none => rfl
  | some d => exact h d (by simp [Oper.looksAt, hg, hd]) _

theorem SameAt.put {ops : Array Oper} {o : Oper} {st : St} {d : Option Tmp} {v : AV} (h : ∀ x, d = some x → x ∉ o.looksAt ops) : SameAt ops o (st.put d v).tmps st.tmps := fun t ht _ => put_get fun e => h t e ht

def isCallV : Op → Bool
  | .range .. => true
  | .next .. => true
  | .entry .. => true
  | .call { callee := .value _, .. } => true
  | _ => false

theorem callOf_isCall {ev : Operand → AV} {o : Op} (h : isCallV o = false) : callOf ev o = none := by
  unfold callOf
  split
  · rename_i f as _; simp [isCallV] at h
  · rfl

theorem nxOf_isCall {P : Program} {d : Nat} {ev : Operand → AV} {o : Op} {σ : Heap} (h : isCallV o = false) : nxOf P d ev o σ = none := by
  unfold nxOf
  split
  · simp [isCallV] at h
  · simp [isCallV] at h
  · simp [isCallV] at h
  · rfl

def cls (Γ : Pures) : Op → Nat
  | .call { callee := .value (.func f), .. } => if Γ.lc then 4 else if (Γ.p f).isSome then 1 else 2
  | .call { callee := .value _, .. } => if Γ.lc then 4 else 2
  | .range .. => 2
  | .next .. => 2
  | .entry .. => 2
  | o => if opHeap o then 3 else 0

theorem todoB_cls1 {P : Program} {Γ : Pures} {o : Oper} {ts : List AV} {σ σ' : Heap} (h : cls Γ o.op = 1) : todoB P Γ o ts σ = todoB P Γ o ts σ' := by
  unfold cls at h
  unfold todoB
  split at h
  · rename_i f xs tys hop
    rw [hop]
    simp only [callOf, evO]
    cases hl : Γ.lc with
    | true => rw [hl] at h; simp at h
    | false =>
      cases hf : Γ.p f with
      | none => rw [hf, hl] at h; simp at h
      | some c => rfl
  · split at h <;> cases h
  · cases h
  · cases h
  · cases h
  · split at h <;> cases h

theorem callV_cls {Γ : Pures} {o : Op} (h : isCallV o = true) : cls Γ o = 1 ∨ cls Γ o = 2 ∨ cls Γ o = 4 := by
  unfold isCallV at h
  split at h
  · exact .inr (.inl rfl)
  · exact .inr (.inl rfl)
  · exact .inr (.inl rfl)
  · rename_i f xs tys
    cases f with
    | func f =>
      simp only [cls]
      split
      · simp
      · split <;> simp
    | _ =>
      simp only [cls]
      split <;> simp
  · cases h

/-- the keys that a call can reach, by its values -/
def fpOf (Γ : Pures) (o : Oper) (_ts : List AV) : List Nat × Nat × Nat := Γ.fp o.dst

theorem todoB_cls4 {P : Program} {Γ : Pures} {o : Oper} {ts : List AV} {σ σ' : Heap} (h : cls Γ o.op = 4) (he : EqOn σ σ' (fpOf Γ o ts).1) : todoB P Γ o ts σ = todoB P Γ o ts σ' := by
  have hl : Γ.lc = true ∧ ((∃ f xs tys, o.op = .call { callee := .value f, args := xs, argTypes := tys })) := by
    unfold cls at h
    split at h
    · rename_i f xs tys hop
      split at h
      · rename_i hl; exact ⟨hl, _, _, _, hop⟩
      · split at h <;> cases h
    · rename_i f xs tys hop
      split at h
      · rename_i hl; exact ⟨hl, _, _, _, hop⟩
      · cases h
    · cases h
    · cases h
    · cases h
    · split at h <;> cases h
  obtain ⟨hl, f, xs, tys, hop⟩ := hl
  unfold todoB
  unfold fpOf at he
  cases hc : callOf (evO ts) o.op with
  | none =>
    rw [hop]
    rfl
  | some fa =>
    obtain ⟨g, args⟩ := fa
    simp only
    rw [hl]
    simp only
    have hres : resH σ (Γ.fp o.dst).1 = resH σ' (Γ.fp o.dst).1 := by
      funext k
      unfold resH
      split
      · rename_i hk
        exact he k (by simpa using hk)
      · rfl
    rw [hres]

/-- what an operation is about to do hangs on what it looks at alone -/
theorem todoN_eq {P : Program} {Γ : Pures} {ops : Array Oper} {o : Oper} {ts ts' : List AV} {σ σ' : Heap} (h : SameAt ops o ts ts')
    (hσ : σ = σ' ∨ cls Γ o.op = 1 ∨ (cls Γ o.op = 4 ∧ EqOn σ σ' (fpOf Γ o ts').1) ∨ (isCallV o.op = false ∧ (opHeap o.op = false ∨ EqOn σ σ' (keysOp (dkey Γ o) (evO ts') o.op)))) : todoN P Γ ops o ts σ = todoN P Γ ops o ts' σ' := by
  have hB : todoB P Γ o ts σ = todoB P Γ o ts' σ' := by
    have h1 : todoB P Γ o ts σ = todoB P Γ o ts' σ := by
      unfold todoB
      rw [callOf_ev h.ev, semOp_ev h.ev, nxOf_ev h.ev]
    rw [h1]
    rcases hσ with e | e | ⟨e0, e⟩ | ⟨e0, e⟩
    · subst e; rfl
    · exact todoB_cls1 e
    · exact todoB_cls4 e0 e
    · unfold todoB
      rw [callOf_isCall e0]
      simp only [nxOf_isCall e0]
      rcases e with e | e
      · rw [semOp_pure e (σ' := σ')]
      · rw [semOp_eq e]
  unfold todoN
  cases hg : o.guard with
  | none => exact hB
  | some jb =>
    obtain ⟨j, b⟩ := jb
    simp only
    rw [h.gval hg, hB]

end Go.Dm
