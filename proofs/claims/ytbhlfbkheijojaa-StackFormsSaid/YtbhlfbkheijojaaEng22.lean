/-
  All code on the abstract machine, and calls of functions.
  Conditions: none.
-/
import Derived.Test.YtbhlfbkheijojaaEng21
namespace Go.Dm

def inBlockQ (id : Nat) (Q : Exit → St → Prop) : Exit → St → Prop
  | .exit i, st => if i = id then Q .normal st else Q (.exit i) st
  | e, st => Q e st
def thenQ (K : St → Prop) (Q : Exit → St → Prop) : Exit → St → Prop
  | .normal, st => K st
  | e, st => Q e st
def noGotoQ (Q : Exit → St → Prop) : Exit → St → Prop
  | .goto _, _ => False
  | e, st => Q e st
/-- one of two, by a Bool: what is known is worked out -/
def bcase (c : Bool) (x y : Prop) : Prop := match c with | true => x | false => y

theorem bcase_iff {c : Bool} {x y : Prop} : bcase c x y ↔ (c = true → x) ∧ (c = false → y) := by cases c <;> simp [bcase]

def CondP (c : AV) (x y : Prop) : Prop := match c with | .t (.bool b) => bcase b x y | .bq p q => (p = true → x) ∧ (q = true → y) | _ => False

/-- a guard's slot, told by what it is -/
def St.setg (st : St) (ops : Array Oper) (j : Nat) (c : Bool) : St := match (ops[j]?).bind (·.dst) with | some d => { st with tmps := st.tmps.set d (.t (.bool c)) } | none => st

def opM (P : Program) (Γ : Pures) (ops : Array Oper) (o : Oper) (K : St → Prop) (st : St) : Prop :=
  match o.guard with
  | none => opB P Γ o K st
  | some (j, b) =>
    match gval ops st.tmps j with
    | .t (.bool c) => bcase c (bcase b (opB P Γ o K (st.setg ops j true)) (K ((st.setg ops j true).put o.dst (.tup [])))) (bcase b (K ((st.setg ops j false).put o.dst (.tup []))) (opB P Γ o K (st.setg ops j false)))
    | .tup [] => K (st.put o.dst (.tup []))
    | _ => False

theorem setg_same {ops : Array Oper} {st : St} {j : Nat} {c : Bool} (h : gval ops st.tmps j = .t (.bool c)) : st.setg ops j c = st := by
  unfold St.setg
  unfold gval at h
  split
  · rename_i d hd
    rw [hd] at h
    simp only at h
    have hlt : d < st.tmps.length := by
      rcases Nat.lt_or_ge d st.tmps.length with h' | h'
      · exact h'
      · simp [List.getD, h'] at h
    have : st.tmps[d] = .t (.bool c) := by simpa [List.getD, hlt] using h
    have e : st.tmps.set d (.t (.bool c)) = st.tmps := by rw [← this]; exact List.set_getElem_self hlt
    rw [e]
  · rfl

theorem opM_iff {P : Program} {Γ : Pures} {ops : Array Oper} {o : Oper} {K : St → Prop} {st : St} : opM P Γ ops o K st ↔ opN P Γ ops o K st := by
  unfold opM opN
  cases o.guard with
  | none => exact Iff.rfl
  | some jb =>
    obtain ⟨j, b⟩ := jb
    simp only
    cases hg : gval ops st.tmps j with
    | t x =>
      cases x with
      | bool c =>
        simp only
        cases c with
        | true => rw [setg_same hg]; cases b <;> simp [bcase]
        | false => rw [setg_same hg]; cases b <;> simp [bcase]
      | _ => exact Iff.rfl
    | tup l => cases l <;> exact Iff.rfl
    | _ => exact Iff.rfl

def nestM (P : Program) (Γ : Pures) (ops : Array Oper) : List Nat → (St → Prop) → St → Prop
  | [], K, st => K st
  | i :: r, K, st => match ops[i]? with | none => nestM P Γ ops r K st | some o => opM P Γ ops o (nestM P Γ ops r K) st

theorem nestM_eq {P : Program} {Γ : Pures} {ops : Array Oper} {K : St → Prop} : ∀ (l : List Nat), nestM P Γ ops l K = nest P Γ ops l K := by
  intro l
  induction l with
  | nil => rfl
  | cons i r ih =>
    funext st
    unfold nestM nest
    rw [ih]
    cases ops[i]? with
    | none => rfl
    | some o => exact propext opM_iff

/-- the loop's next round, told by less where need be -/
def Again (σ0 : Heap) (I : Nat → St → Prop) (n : Nat) (st : St) : Prop := ∃ st' n', n' < n ∧ Weak σ0 st st' ∧ I n' st'

def LoopP (σ0 : Heap) (body : (Exit → St → Prop) → St → Prop) (Q : Exit → St → Prop) (st : St) : Prop :=
  ∃ I : Nat → St → Prop, (∃ n st0, Weak σ0 st st0 ∧ I n st0) ∧ ∀ n st, I n st → body (thenQ (Again σ0 I n) Q) st

def exec (P : Program) (Γ : Pures) (σ0 : Heap) : Code → (Exit → St → Prop) → St → Prop
  | .skip, Q, st => Q .normal st
  | .region _ ops false, Q, st => nestM P Γ ops (List.range ops.size) (Q .normal) st
  | .region _ ops true, Q, st => drawOK Γ ops = true ∧ nestM P Γ ops (List.range ops.size) (fun st => apartAll Γ ops st.tmps = true ∧ Q .normal st) st
  | .seq a b, Q, st => exec P Γ σ0 a (thenQ (exec P Γ σ0 b Q) Q) st
  | .cond c a b, Q, st => CondP (evO st.tmps c) (exec P Γ σ0 a Q st) (exec P Γ σ0 b Q st)
  | .block id c, Q, st => exec P Γ σ0 c (inBlockQ id Q) st
  | .loop c, Q, st => LoopP σ0 (exec P Γ σ0 c) Q st
  | .exit id, Q, st => Q (.exit id) st
  | .scope c, Q, st => exec P Γ σ0 c (noGotoQ Q) st
  | .label _, Q, st => Q .normal st
  | .ret, Q, st => Q .ret st
  | _, _, _ => False

section
variable {P : Program} {ρ0 : Inj} {F0 : Fz} {W : World} {Γ : Pures} {σ0 : Heap}

theorem exec_sound (hm : P.follows .mixedOrders = true) (hE : ∀ k, σ0 k = .none → ρ0 k = .none) : ∀ (c : Code) (Q : Exit → St → Prop) (ρ : Inj) (F : Fz) (a : Act) (w : World) (st : St), Sim ρ0 F0 W ρ F a w st → exec P Γ σ0 c Q st → c.wp P (LQ ρ0 F0 W Q) a w := by
  intro c
  induction c with
  | skip => intro Q ρ F a w st hs h; exact wp_skip ⟨st, ρ, F, hs, h⟩
  | region id ops d =>
    intro Q ρ F a w st hs h
    cases d with
    | false =>
      simp only [exec, nestM_eq] at h
      exact wp_region (nest_sound (K := Q .normal) (fun ρ F a w st s h => ⟨st, ρ, F, s, h⟩) _ ρ F a w st hs h)
    | true =>
      simp only [exec, nestM_eq] at h
      exact draw_sound hm h.1 (K := Q .normal) (fun ρ F a w st s h => ⟨st, ρ, F, s, h⟩) hs h.2
  | seq x y ihx ihy =>
    intro Q ρ F a w st hs h
    refine wp_seq (wp_mono (ihx _ ρ F a w st hs h) fun e a w hq => ?_)
    obtain ⟨st, ρ, F, s, h⟩ := hq
    cases e with
    | normal => exact ihy Q ρ F a w st s h
    | _ => exact ⟨st, ρ, F, s, h⟩
  | cond c x y ihx ihy =>
    intro Q ρ F a w st hs h
    unfold exec at h
    have hr := AR.evO hs.tmps c
    unfold CondP at h
    split at h
    · rename_i b hb
      rw [hb] at hr
      have he : a.eval c = .bool b := by
        generalize a.eval c = V at hr
        cases hr with | t hr => cases hr; rfl
      refine wp_cond he ?_
      cases b with
      | true => exact ihx Q ρ F a w st hs h
      | false => exact ihy Q ρ F a w st hs h
    · rename_i hb
      rw [hb] at hr
      generalize hV : a.eval c = V at hr
      cases hr with
      | bq b hp hq =>
        refine wp_cond hV ?_
        cases b with
        | true => exact ihx Q ρ F a w st hs (h.1 (hp rfl))
        | false => exact ihy Q ρ F a w st hs (h.2 (hq rfl))
    · exact h.elim
  | block id c ih =>
    intro Q ρ F a w st hs h
    refine wp_block (wp_mono (ih _ ρ F a w st hs h) fun e a w hq => ?_)
    obtain ⟨st, ρ, F, s, h⟩ := hq
    cases e with
    | exit i =>
      simp only [inBlockQ] at h
      simp only [Exit.inBlock]
      split
      · rename_i hi; rw [if_pos hi] at h; exact ⟨st, ρ, F, s, h⟩
      · rename_i hi; rw [if_neg hi] at h; exact ⟨st, ρ, F, s, h⟩
    | _ => exact ⟨st, ρ, F, s, h⟩
  | loop c ih =>
    intro Q ρ F a w st hs h
    obtain ⟨I, ⟨n, st0, hw, h0⟩, hb⟩ := h
    obtain ⟨ρ1, F1, hs1⟩ := hw _ _ _ _ _ _ _ hE hs
    refine wp_loop_ghost (fun n a w => ∃ st ρ F, Sim ρ0 F0 W ρ F a w st ∧ I n st) n ⟨st0, ρ1, F1, hs1, h0⟩ fun n a w hI => ?_
    obtain ⟨st, ρ, F, s, hi⟩ := hI
    refine wp_mono (ih _ ρ F a w st s (hb n st hi)) fun e a w hq => ?_
    obtain ⟨st, ρ, F, s, h⟩ := hq
    cases e with
    | normal =>
      obtain ⟨st', n', hn, hw, hi⟩ := h
      obtain ⟨ρ1, F1, hs1⟩ := hw _ _ _ _ _ _ _ hE s
      exact ⟨n', hn, st', ρ1, F1, hs1, hi⟩
    | _ => exact ⟨st, ρ, F, s, h⟩
  | rangeFunc f ps x y ihx ihy => intro Q ρ F a w st hs h; exact h.elim
  | exit id => intro Q ρ F a w st hs h; exact wp_exit ⟨st, ρ, F, hs, h⟩
  | scope c ih =>
    intro Q ρ F a w st hs h
    refine wp_scope_straight (wp_mono (ih _ ρ F a w st hs h) fun e a w hq => ?_)
    obtain ⟨st, ρ, F, s, h⟩ := hq
    cases e with
    | goto l => exact h.elim
    | _ => exact ⟨st, ρ, F, s, h⟩
  | label l => intro Q ρ F a w st hs h; exact wp_label ⟨st, ρ, F, hs, h⟩
  | goto l => intro Q ρ F a w st hs h; exact h.elim
  | ret => intro Q ρ F a w st hs h; exact wp_ret ⟨st, ρ, F, hs, h⟩
  | refuse s => intro Q ρ F a w st hs h; exact h.elim

end

def resOne (P : Program) (st : St) : ResultVar → PV AV
  | .tmp t => ⟨True, st.tmps.getD t (.tup [])⟩
  | .cell a t => match tyOf P t with | some (ag, n) => aLoad ag n (st.tmps.getD a (.tup [])) st.σ | none => ⟨False, .any⟩

def resDom (P : Program) (st : St) : List ResultVar → Prop
  | [] => True
  | r :: rs => (resOne P st r).dom ∧ resDom P st rs

def resVal (P : Program) (st : St) (rs : List ResultVar) : AV :=
  match rs with
  | [r] => (resOne P st r).val
  | rs => .tup (rs.map fun r => (resOne P st r).val)

/-- what a function hands back, told otherwise where need be -/
def RetV (σ0 : Heap) (R : AV → Heap → Prop) (r : AV) (σ : Heap) : Prop := ∃ r' σ', Weak σ0 ⟨[r], σ⟩ ⟨[r'], σ'⟩ ∧ R r' σ'

/-- how a function ends -/
def retQ (P : Program) (σ0 : Heap) (fn : Func) (R : AV → Heap → Prop) : Exit → St → Prop
  | .normal, st => resDom P st fn.results.toList ∧ RetV σ0 R (resVal P st fn.results.toList) st.σ
  | .ret, st => resDom P st fn.results.toList ∧ RetV σ0 R (resVal P st fn.results.toList) st.σ
  | _, _ => False

def resRun (vs : Array Value) : ResultVar → Sem Value
  | .tmp t => pure (vs.getD t undef)
  | .cell a t => do loadVar t (← asAddr (vs.getD a undef))

theorem resOne_sound {P : Program} {ρ : Inj} {F : Fz} {w : World} {st : St} {vs : Array Value} (ht : ValsAR ρ F w vs st.tmps) (hh : HR ρ F w st.σ) {r : ResultVar} (hd : (resOne P st r).dom) :
    ∃ v, (resRun vs r).run P w = .ok v w ∧ AR ρ F w v (resOne P st r).val := by
  have hev : ∀ t, AR ρ F w (vs.getD t undef) (st.tmps.getD t (.tup [])) := fun t => AR.evO (a := ⟨vs, []⟩) ht (.tmp t)
  cases r with
  | tmp t => exact ⟨_, rfl, hev t⟩
  | cell a t =>
    unfold resOne at hd ⊢
    simp only at hd ⊢
    cases hty : tyOf P t with
    | none => rw [hty] at hd; exact hd.elim
    | some p =>
      obtain ⟨ag, n⟩ := p
      rw [hty] at hd
      simp only at hd ⊢
      obtain ⟨v, h1, h2⟩ := aLoad_sound hh hty (hev a) hd
      refine ⟨v, ?_, h2⟩
      unfold resRun
      simp only
      generalize vs.getD a undef = V at h1
      cases V with
      | pointer p =>
        cases p with
        | some x => simpa [Instr.loadAt, Instr.sureAddr, asAddr] using h1
        | none => simp [Instr.loadAt, Instr.sureAddr] at h1
      | _ => simp [Instr.loadAt, Instr.sureAddr] at h1

theorem results_sound {P : Program} {ρ : Inj} {F : Fz} {w : World} {st : St} {vs : Array Value} (ht : ValsAR ρ F w vs st.tmps) (hh : HR ρ F w st.σ) {fn : Func} (hd : resDom P st fn.results.toList) :
    ∃ v, (results fn vs).run P w = .ok v w ∧ AR ρ F w v (resVal P st fn.results.toList) := by
  have key : ∀ (rs : List ResultVar), resDom P st rs → ∃ ys : List Value, (rs.mapM (resRun vs)).run P w = .ok ys w ∧
      ys.length = rs.length ∧ ∀ (i : Nat) (y : Value) (r : ResultVar), ys[i]? = some y → rs[i]? = some r → AR ρ F w y (resOne P st r).val := by
    intro rs
    induction rs with
    | nil => intro _; exact ⟨[], by simp, rfl, fun i y r h _ => by simp at h⟩
    | cons r rs ih =>
      intro hd
      obtain ⟨v, h1, h2⟩ := resOne_sound ht hh hd.1
      obtain ⟨ys, h3, h4, h5⟩ := ih hd.2
      refine ⟨v :: ys, by simp only [List.mapM_cons]; simp [h1, h3], by simp [h4], fun i y r' hy hr => ?_⟩
      cases i with
      | zero => simp at hy hr; subst hy; subst hr; exact h2
      | succ i => simp at hy hr; exact h5 i y r' hy hr
  obtain ⟨ys, h1, h2, h3⟩ := key _ hd
  have hrun : (results fn vs).run P w = .ok (if h : ys.toArray.size = 1 then ys.toArray[0] else .tuple ys.toArray) w := by
    have e : results fn vs = (do let zs ← fn.results.mapM (resRun vs); pure (if h : zs.size = 1 then zs[0] else .tuple zs)) := by
      unfold results
      congr 1
    rw [e, Array.mapM_eq_mapM_toList]
    simp [h1]
  refine ⟨_, hrun, ?_⟩
  clear hrun h1 key
  generalize fn.results.toList = rs at *
  match rs, ys, h2 with
  | [r], [y], _ => exact h3 0 y r rfl rfl
  | [], [], _ => exact .tup rfl fun i v a h _ => by simp at h
  | r :: r' :: rs, y :: y' :: ys, h2 =>
    rw [dif_neg (by simp)]
    refine .tup (by simpa using h2) fun i v a hv ha => ?_
    simp only [List.getElem?_map, Option.map_eq_some_iff] at ha
    obtain ⟨r, hr, rfl⟩ := ha
    exact h3 i v r (by simpa using hv) hr

/-- a function's contract, out of its code -/
theorem FSpec.of_exec {P : Program} {Γ : Pures} {f : FuncId} {fn : Func} {c : Code} {args : List AV} {σ : Heap} {R : AV → Heap → Prop} (hm : P.follows .mixedOrders = true) (hf : P.funcs[f]? = some fn) (hb : fn.body = some c)
    (h : exec P Γ σ c (retQ P σ fn R) ⟨args ++ List.replicate (fn.ntmps - args.length) (.tup []), σ⟩) : FSpec P f args σ R := by
  intro ρ F w vs hv hh
  refine calls_of_wp hf hb ?_
  have hs : Sim ρ F w ρ F { tmps := vs ++ Array.replicate (fn.ntmps - vs.size) undef, defers := [] } w ⟨args ++ List.replicate (fn.ntmps - args.length) (.tup []), σ⟩ := by
    refine ⟨rfl, ⟨by simp [hv.1], fun i v a h1 h2 => ?_⟩, Stp.refl hh⟩
    by_cases hi : i < args.length
    · rw [Array.getElem?_append_left (by rw [hv.1]; exact hi)] at h1
      rw [List.getElem?_append_left hi] at h2
      exact hv.2 i v a h1 h2
    · rw [Array.getElem?_append_right (by rw [hv.1]; omega)] at h1
      rw [List.getElem?_append_right (by omega)] at h2
      rw [Array.getElem?_replicate] at h1
      rw [List.getElem?_replicate] at h2
      split at h1
      · split at h2
        · cases h1; cases h2
          exact .tup rfl fun i v a h _ => by simp at h
        · cases h2
      · cases h1
  refine wp_mono (exec_sound hm (fun k => (hh.dom k).1) c _ ρ F _ w _ hs h) fun e a w' hq => ?_
  obtain ⟨st, ρ', F', s, hr⟩ := hq
  have fin : resDom P st fn.results.toList ∧ RetV σ R (resVal P st fn.results.toList) st.σ → a.defers = [] ∧ ∃ v, (results fn a.tmps).run P w' = .ok v w' ∧ ∃ v', Ending.returned v = .returned v' ∧ ∃ r σ' ρ' F', R r σ' ∧ AR ρ' F' w' v' r ∧ Stp ρ F w ρ' F' w' σ' := fun hr => by
    obtain ⟨hd, r', σ', hw, hR⟩ := hr
    obtain ⟨v, h1, h2⟩ := results_sound s.tmps s.stp.heap hd
    have s1 : Sim ρ F w ρ' F' { tmps := #[v], defers := [] } w' ⟨[resVal P st fn.results.toList], st.σ⟩ := ⟨rfl, ⟨rfl, fun i x y hx hy => by
      cases i with
      | zero => simp at hx hy; subst hx; subst hy; exact h2
      | succ i => simp at hy⟩, s.stp⟩
    obtain ⟨ρ'', F'', s2⟩ := hw _ _ _ _ _ _ _ (fun k => (hh.dom k).1) s1
    exact ⟨s.defers, v, h1, v, rfl, _, _, _, _, hR, s2.tmps.2 0 v r' rfl rfl, s2.stp⟩
  cases e with
  | normal => exact fin hr
  | ret => exact fin hr
  | _ => exact hr.elim

end Go.Dm
