/-
  Code on the abstract machine: regions, tests, loops, calls; what it says is so of the model.
  Conditions: none.
-/
import Derived.Test.YtbhlfbkheijojaaEng15b
namespace Go.Dm

/-- the state of a call under way: since its entry (ρ0, F0, W) only steps of memory -/
structure Sim (ρ0 : Inj) (F0 : Fz) (W : World) (ρ : Inj) (F : Fz) (a : Act) (w : World) (st : St) : Prop where
  defers : a.defers = []
  tmps : ValsAR ρ F w a.tmps st.tmps
  stp : Stp ρ0 F0 W ρ F w st.σ

/-- the same concrete state, told otherwise; σ0: what the call was handed -/
def Weak (σ0 : Heap) (st st' : St) : Prop := ∀ ρ0 F0 W ρ F a w, (∀ k, σ0 k = .none → ρ0 k = .none) → Sim ρ0 F0 W ρ F a w st → ∃ ρ' F', Sim ρ0 F0 W ρ' F' a w st'

theorem Weak.refl (σ0 : Heap) (st : St) : Weak σ0 st st := fun _ _ _ ρ F _ _ _ h => ⟨ρ, F, h⟩
theorem Weak.trans {σ0 : Heap} {a b c : St} (h : Weak σ0 a b) (k : Weak σ0 b c) : Weak σ0 a c := fun ρ0 F0 W ρ F x w e s => by
  obtain ⟨ρ', F', s'⟩ := h ρ0 F0 W ρ F x w e s
  exact k ρ0 F0 W ρ' F' x w e s'

/-- what a call of a function does to the abstract machine -/
def FSpec (P : Program) (f : FuncId) (args : List AV) (σ : Heap) (R : AV → Heap → Prop) : Prop :=
  ∀ (ρ : Inj) (F : Fz) (w : World) (vs : Array Value), ValsAR ρ F w vs args → HR ρ F w σ →
    Calls P f vs w fun e w' => ∃ v, e = .returned v ∧ ∃ r σ' ρ' F', R r σ' ∧ AR ρ' F' w' v r ∧ Stp ρ F w ρ' F' w' σ'

mutual
/-- are a value's keys among some -/
def inK (ks : List Nat) : AV → Bool
  | .ptr k _ _ => ks.contains k
  | .own k _ _ _ => ks.contains k
  | .mapr k => ks.contains k
  | .it k => ks.contains k
  | .agg l => inKs ks l
  | .tup l => inKs ks l
  | .fn _ a b => inKs ks a && inKs ks b
  | _ => true
def inKs (ks : List Nat) : List AV → Bool
  | [] => true
  | a :: r => inK ks a && inKs ks r
end
def blkIn (ks : List Nat) : Blk → Prop
  | .dead => True
  | .row _ _ es => ∀ e ∈ es, inKs ks e = true
  | .map _ m => ∀ k a, m k = some a → inK ks a = true
  | .iter _ _ => False
  | .siter _ _ => True
  | .mapl _ es _ => ∀ x ∈ es, inK ks x.2.1 = true
  | .itl src _ _ _ => inK ks src = true
/-- some blocks of a memory -/
def resH (σ : Heap) (ks : List Nat) : Heap := fun k => if ks.contains k then σ k else none
/-- a memory over another -/
def mrgH (σ τ : Heap) : Heap := fun k => match τ k with | some b => some b | none => σ k

theorem inKs_get {ks : List Nat} : ∀ {l : List AV}, inKs ks l = true → ∀ {i : Nat} {a : AV}, l[i]? = some a → inK ks a = true
  | [], _, i, a, h => by simp at h
  | b :: r, hp, 0, a, h => by
    simp only [inKs, Bool.and_eq_true] at hp
    simp at h; subst h; exact hp.1
  | b :: r, hp, i + 1, a, h => by
    simp only [inKs, Bool.and_eq_true] at hp
    exact inKs_get hp.2 (by simpa using h)

theorem AR.res {ρ ρ' : Inj} {F : Fz} {w : World} {ks : List Nat} (hρ : ∀ k, ks.contains k = true → ρ' k = ρ k) {v : Value} {a : AV} (h : AR ρ F w v a) : inK ks a = true → AR ρ' F w v a := by
  induction h with
  | t h => intro _; exact .t h
  | tsl h => intro _; exact .tsl h
  | any v => intro _; exact .any v
  | nils => intro _; exact .nils
  | bq b hp hq => intro _; exact .bq b hp hq
  | ptr h => intro hk; exact .ptr ((hρ _ hk).trans h)
  | ptrDead a h => intro hk; exact .ptrDead a ((hρ _ hk).trans h)
  | eptr vals hb hv ht => intro _; exact .eptr vals hb hv ht
  | own h hl => intro hk; exact .own ((hρ _ hk).trans h) hl
  | ownVirt a h => intro hk; exact .ownVirt a ((hρ _ hk).trans h)
  | ownZero a h hl hz => intro hk; exact .ownZero a ((hρ _ hk).trans h) hl hz
  | ownDead a l c h hn => intro hk; exact .ownDead a l c ((hρ _ hk).trans h) hn
  | mapr h => intro hk; exact .mapr ((hρ _ hk).trans h)
  | maprDead r h => intro hk; exact .maprDead r ((hρ _ hk).trans h)
  | it h => intro hk; exact .it ((hρ _ hk).trans h)
  | itDead a h => intro hk; exact .itDead a ((hρ _ hk).trans h)
  | agg hs h ih => intro hk; exact .agg hs fun i v a h1 h2 => ih i v a h1 h2 (inKs_get hk h2)
  | tup hs h ih => intro hk; exact .tup hs fun i v a h1 h2 => ih i v a h1 h2 (inKs_get hk h2)
  | fn h1s h1 h2s h2 ih1 ih2 =>
    intro hk
    simp only [inK, Bool.and_eq_true] at hk
    exact .fn h1s (fun i v a g1 g2 => ih1 i v a g1 g2 (inKs_get hk.1 g2)) h2s (fun i v a g1 g2 => ih2 i v a g1 g2 (inKs_get hk.2 g2))

theorem BR.res {ρ ρ' : Inj} {F : Fz} {w : World} {ks : List Nat} (hρ : ∀ k, ks.contains k = true → ρ' k = ρ k) {k : Nat} {b : Blk} (hk : ks.contains k = true) (hb : blkIn ks b) (h : BR ρ F w k b) : BR ρ' F w k b := by
  have e := hρ k hk
  cases h with
  | dead h => exact .dead (e.trans h)
  | virt h ht => exact .virt (e.trans h) ht
  | row h hb1 hl hs hz hc hf =>
    refine .row (e.trans h) hb1 hl hs hz (fun i x hx j a ha => ?_) hf
    obtain ⟨v, h1, h2⟩ := hc i x hx j a ha
    exact ⟨v, h1, h2.res hρ (inKs_get (hb x (List.mem_of_getElem? hx)) ha)⟩
  | map h hb1 hm hv hf => exact .map (e.trans h) hb1 hm (fun j a ha => (hv j a ha).res hρ (hb j a ha)) hf
  | siter h hb1 => exact .siter (e.trans h) hb1
  | mapl h hb1 hs ha hkd hn hf =>
    refine .mapl (e.trans h) hb1 hs (fun i x hx => ?_) hkd hn hf
    obtain ⟨v, h1, h2⟩ := ha i x hx
    exact ⟨v, h1, h2.res hρ (hb x (List.mem_of_getElem? hx))⟩
  | itl h hb1 hm => exact .itl (e.trans h) hb1 (hm.res hρ hb)

theorem HR.inSize {ρ : Inj} {F : Fz} {w : World} {σ : Heap} (hh : HR ρ F w σ) {k n : Nat} {p : Pl} (hk : ρ k = some p) (hn : p.block = some n) : n < w.heap.size := by
  cases p with
  | dead => cases hn
  | virt => cases hn
  | at_ b base sz ct => cases hn; exact hh.block_lt hk

/-- are a call's values and some blocks closed -/
structure ClosedK (args : List AV) (σ : Heap) (ks : List Nat) : Prop where
  args : inKs ks args = true
  blks : ∀ k b, ks.contains k = true → σ k = some b → blkIn ks b

/-- A CALL LOOKS AT WHAT IT CAN REACH ALONE -/
theorem FSpec.frame {P : Program} {f : FuncId} {args : List AV} {σ : Heap} {ks : List Nat} {R0 : AV → Heap → Prop} (hc : ClosedK args σ ks) (hspec : FSpec P f args (resH σ ks) R0)
    (hfr : ∀ r τ, R0 r τ → ∀ k, τ k ≠ none → ks.contains k = true ∨ σ k = none) : FSpec P f args σ fun r σ' => ∃ τ, R0 r τ ∧ σ' = mrgH σ τ := by
  intro ρ F w vs hv hh
  let ρ1 : Inj := fun k => if ks.contains k then ρ k else none
  have hρ1 : ∀ k, ks.contains k = true → ρ1 k = ρ k := fun k hk => if_pos hk
  have hρ1n : ∀ k, ks.contains k = false → ρ1 k = none := fun k hk => by show (if ks.contains k then ρ k else none) = none; rw [hk]; rfl
  have hρ1s : ∀ k p, ρ1 k = some p → ks.contains k = true ∧ ρ k = some p := fun k p h => by
    cases hk : ks.contains k with
    | true => exact ⟨rfl, (hρ1 k hk).symm.trans h⟩
    | false => rw [hρ1n k hk] at h; cases h
  have hH1 : HR ρ1 F w (resH σ ks) := by
    refine ⟨fun k => ?_, fun k b hb => ?_, fun k k' p p' b hk hk' hp1 hp2 => ?_, hh.fzc, hh.fzo⟩
    · cases hk : ks.contains k with
      | true => rw [hρ1 k hk]; unfold resH; rw [hk]; exact hh.dom k
      | false => rw [hρ1n k hk]; unfold resH; rw [hk]; simp
    · unfold resH at hb
      split at hb
      · rename_i hk; exact BR.res hρ1 hk (hc.blks k b hk hb) (hh.blk k b hb)
      · cases hb
    · exact hh.inj k k' p p' b (hρ1s k p hk).2 (hρ1s k' p' hk').2 hp1 hp2
  refine (hspec ρ1 F w vs ⟨hv.1, fun i v a h1 h2 => (hv.2 i v a h1 h2).res hρ1 (inKs_get hc.args h2)⟩ hH1).mono fun e w' hq => ?_
  obtain ⟨v, rfl, r, τ, ρ1', F', hR, har, s⟩ := hq
  have hfr' := hfr r τ hR
  let U : Nat → Prop := fun b => ∃ j p, ρ1 j = some p ∧ p.block = some b
  have f := s.fr w F U ⟨rfl, rfl, rfl, Nat.le_refl _, fun _ _ _ => rfl, Keep.refl _ _, F.le_refl, fun b o h => .inl h, fun r h => .inl h, fun k p b hk hb => .inl ⟨k, p, hk, hb⟩⟩
  let ρ' : Inj := fun k => match ρ1' k with | some p => some p | none => ρ k
  have hρ's : ∀ k p, ρ1' k = some p → ρ' k = some p := fun k p h => by show (match ρ1' k with | some p => some p | none => ρ k) = some p; rw [h]
  have hρ'n : ∀ k, ρ1' k = none → ρ' k = ρ k := fun k h => by show (match ρ1' k with | some p => some p | none => ρ k) = ρ k; rw [h]
  have hτn : ∀ k, τ k = none ↔ ρ1' k = none := s.heap.dom
  have hmn : ∀ k, τ k = none → mrgH σ τ k = σ k := fun k h => by unfold mrgH; rw [h]
  have hms : ∀ k b, τ k = some b → mrgH σ τ k = some b := fun k b h => by unfold mrgH; rw [h]
  -- a key that the call has made, or was handed
  have hfk : ∀ k p, ρ1' k = some p → ks.contains k = true ∨ ρ k = none := fun k p h => by
    rcases hfr' k (fun e => by rw [(hτn k).1 e] at h; cases h) with h1 | h1
    · exact .inl h1
    · exact .inr ((hh.dom k).1 h1)
  have hile1 : ρ1'.le ρ' := fun k p h => .inl (hρ's k p h)
  have hile : ρ.le ρ' := fun k p hk => by
    cases hb : ρ1' k with
    | none => rw [hρ'n k hb]; exact .inl hk
    | some q =>
      rcases hfk k q hb with hc | hn
      · rcases s.ile k p ((hρ1 k hc).trans hk) with h1 | h1
        · exact .inl (hρ's k p h1)
        · exact .inr (hρ's k _ h1)
      · rw [hn] at hk; cases hk
  -- a block that the call isn't handed
  have hnk : ∀ k p, ρ k = some p → ρ1' k = none → ks.contains k = false := fun k p hk hn => by
    cases hc : ks.contains k with
    | false => rfl
    | true =>
      rcases s.ile k p ((hρ1 k hc).trans hk) with h1 | h1
      · rw [hn] at h1; cases h1
      · rw [hn] at h1; cases h1
  have hout : ∀ k p n, ks.contains k = false → ρ k = some p → p.block = some n → ¬ U n := fun k p n hk hkp hn hU => by
    obtain ⟨j, q, hj, hq⟩ := hU
    obtain ⟨hj1, hj2⟩ := hρ1s j q hj
    have := hh.inj k j p q n hkp hj2 hn hq
    subst this
    rw [hk] at hj1; cases hj1
  have hcell : ∀ b o, b < w.heap.size → ¬ U b → F'.cell b o → F.cell b o := fun b o hb hu ho => by
    rcases f.fnew b o ho with h | h | h
    · exact h
    · exact absurd h hu
    · omega
  have hobj : ∀ b, b < w.heap.size → ¬ U b → F'.obj b → F.obj b := fun b hb hu ho => by
    rcases f.onew b ho with h | h | h
    · exact h
    · exact absurd h hu
    · omega
  refine ⟨v, rfl, r, _, ρ', F', ⟨τ, hR, rfl⟩, har.keep (Keep.refl _ _) F'.le_refl hile1, s.keep, s.fle, hile, ⟨fun k => ?_, fun k b hb => ?_, fun k k' p p' b hk hk' hp1 hp2 => ?_, s.heap.fzc, s.heap.fzo⟩, fun W F0 U0 y => ?_⟩
  · cases hb : ρ1' k with
    | none => rw [hρ'n k hb, hmn k ((hτn k).2 hb)]; exact hh.dom k
    | some p =>
      rw [hρ's k p hb]
      cases ht : τ k with
      | none => rw [(hτn k).1 ht] at hb; cases hb
      | some x => rw [hms k x ht]; simp
  · cases ht : τ k with
    | none =>
      rw [hmn k ht] at hb
      have hn := (hτn k).1 ht
      refine (hh.blk k b hb).keep s.keep s.fle hile (hρ'n k hn) fun p n hk hn' => ?_
      have hu := hout k p n (hnk k p hk hn) hk hn'
      have hlt := hh.inSize hk hn'
      exact ⟨f.same n hlt hu, fun o => hcell n o hlt hu, hobj n hlt hu⟩
    | some x =>
      rw [hms k x ht] at hb
      cases hb
      cases hp : ρ1' k with
      | none => rw [(hτn k).2 hp] at ht; cases ht
      | some p => exact (s.heap.blk k _ ht).keep (Keep.refl _ _) F'.le_refl hile1 ((hρ's k p hp).trans hp.symm) (fun _ _ _ _ => ⟨rfl, fun _ h => h, fun h => h⟩)
  · have mixed : ∀ k k' p p', ρ1' k = some p → ρ1' k' = none → ρ k' = some p' → p.block = some b → p'.block = some b → False := fun k k' p p' h1 h2 h3 h4 h5 => by
      rcases f.own k p b h1 h4 with hU | hge
      · exact hout k' p' b (hnk k' p' h3 h2) h3 h5 hU
      · have := hh.inSize h3 h5; omega
    cases hb : ρ1' k with
    | none =>
      rw [hρ'n k hb] at hk
      cases hb' : ρ1' k' with
      | none => rw [hρ'n k' hb'] at hk'; exact hh.inj k k' p p' b hk hk' hp1 hp2
      | some q => rw [hρ's k' q hb'] at hk'; cases hk'; exact (mixed k' k p' p hb' hb hk hp2 hp1).elim
    | some q =>
      rw [hρ's k q hb] at hk; cases hk
      cases hb' : ρ1' k' with
      | none => rw [hρ'n k' hb'] at hk'; exact (mixed k k' p p' hb hb' hk' hp1 hp2).elim
      | some q' => rw [hρ's k' q' hb'] at hk'; cases hk'; exact s.heap.inj k k' p p' b hb hb' hp1 hp2
  · have z := s.fr W F0 U0 ⟨y.os, y.tape, y.output, y.size, y.same, y.keep, y.fle, y.fnew, y.onew, fun j p b hj hb => y.own j p b (hρ1s j p hj).2 hb⟩
    refine ⟨z.os, z.tape, z.output, z.size, z.same, z.keep, z.fle, z.fnew, z.onew, fun k p b hk hb => ?_⟩
    cases hbk : ρ1' k with
    | none => rw [hρ'n k hbk] at hk; exact y.own k p b hk hb
    | some q => rw [hρ's k q hbk] at hk; cases hk; exact z.own k p b hbk hb

def callable (P : Program) (f : FuncId) : Bool :=
  match P.funcs[f]? with
  | some fn => !(fn.name == "runtime.NumGoroutine") && fn.body.isSome
  | none => false

/-- what a call does that leaves the abstract machine's memory alone, whatever that is -/
def PSpec (P : Program) (f : FuncId) (args : List AV) (R : AV → Prop) : Prop :=
  callable P f = true ∧ (∀ σ, FSpec P f args σ fun r σ' => R r ∧ σ' = σ) ∧ ∃ r, R r

/-- what a call hands back: one of some values -/
structure Ctr where
  α : Type
  val : α → AV
  post : α → Prop

def Ctr.R (c : Ctr) (r : AV) : Prop := ∃ x, c.post x ∧ r = c.val x

/-- one value -/
def Ctr.one (v : AV) : Ctr := ⟨Unit, fun _ => v, fun _ => True⟩

/-- what a call hands back and leaves: one of some values and memories -/
structure CtrH where
  α : Type
  val : α → AV
  heap : α → Heap
  post : α → Prop

def CtrH.R (c : CtrH) (r : AV) (σ : Heap) : Prop := ∃ x, c.post x ∧ r = c.val x ∧ σ = c.heap x

/-- one value, one memory -/
def CtrH.one (v : AV) (σ : Heap) : CtrH := ⟨Unit, fun _ => v, fun _ => σ, fun _ => True⟩

/-- a call that looks at memory, or writes it -/
def HSpec (P : Program) (f : FuncId) (args : List AV) (σ : Heap) (C : CtrH) : Prop :=
  callable P f = true ∧ FSpec P f args σ C.R ∧ ∃ x, C.post x

/-- the contracts that a proof uses: of calls that leave memory alone; of others -/
structure Pures where
  p : FuncId → Option (List AV → Ctr)
  h : FuncId → Option (List AV → Heap → CtrH)
  /-- new blocks' keys: this, and the slot's number -/
  base : Nat := 0
  /-- may a call have any contract -/
  ex : Bool := false
  /-- do calls look at what they can reach alone: at which keys; their new keys: from, to -/
  lc : Bool := false
  fp : Option Tmp → List Nat × Nat × Nat := fun _ => ([], 0, 0)

def dkey (Γ : Pures) (o : Oper) : Nat := Γ.base + o.dst.getD 0

def callOf (ev : Operand → AV) (o : Op) : Option (FuncId × List AV) :=
  match o with
  | .call { callee := .value f, args, .. } => match ev f with | .fn g a b => some (g, a ++ args.toList.map ev ++ b) | _ => none
  | _ => none

def St.put (st : St) (d : Option Tmp) (v : AV) : St := match d with | some d => { st with tmps := st.tmps.set d v } | none => st

/-- what a call leaves: at its keys, or under new ones -/
def FreshK (fp : List Nat × Nat × Nat) (σ τ : Heap) : Prop := ∀ k, τ k ≠ none → fp.1.contains k = true ∨ (fp.2.1 ≤ k ∧ k < fp.2.2 ∧ σ k = none)

theorem ClosedK.of_res {args : List AV} {σ : Heap} {ks : List Nat} (h : ClosedK args (resH σ ks) ks) : ClosedK args σ ks :=
  ⟨h.args, fun k b hk hb => h.blks k b hk (by unfold resH; rw [if_pos hk]; exact hb)⟩

def opB (P : Program) (Γ : Pures) (o : Oper) (K : St → Prop) (st : St) : Prop :=
  match callOf (evO st.tmps) o.op with
  | some (f, args) =>
    match Γ.lc with
    | true => ∃ R : AV → Heap → Prop, ((callable P f = true ∧ ClosedK args (resH st.σ (Γ.fp o.dst).1) (Γ.fp o.dst).1 ∧ FSpec P f args (resH st.σ (Γ.fp o.dst).1) R) ∧ ∃ r τ, R r τ) ∧
        ∀ r τ, R r τ → FreshK (Γ.fp o.dst) st.σ τ ∧ K { (st.put o.dst r) with σ := mrgH st.σ τ }
    | false =>
      match Γ.p f with
      | some c => PSpec P f args (c args).R ∧ ∀ x, (c args).post x → K (st.put o.dst ((c args).val x))
      | none =>
        match Γ.h f with
        | some c => HSpec P f args st.σ (c args st.σ) ∧ ∀ x, (c args st.σ).post x → K { (st.put o.dst ((c args st.σ).val x)) with σ := (c args st.σ).heap x }
        | none => Γ.ex = true ∧ ∃ R : AV → Heap → Prop, (callable P f = true ∧ FSpec P f args st.σ R ∧ ∃ r σ', R r σ') ∧ ∀ r σ', R r σ' → K { (st.put o.dst r) with σ := σ' }
  | none =>
    match nxOf P (dkey Γ o) (evO st.tmps) o.op st.σ with
    | some r => (r.dom ∧ r.val ≠ []) ∧ ∀ x ∈ r.val, K { (st.put o.dst x.1) with σ := updAll st.σ x.2 }
    | none => (semOp P (dkey Γ o) (evO st.tmps) o.op st.σ).run fun x => K { (st.put o.dst x.1) with σ := updAll st.σ x.2 }

/-- what a guard's operation has left -/
def gval (ops : Array Oper) (ts : List AV) (j : Nat) : AV := match (ops[j]?).bind (·.dst) with | some d => ts.getD d .any | none => .any

def opN (P : Program) (Γ : Pures) (ops : Array Oper) (o : Oper) (K : St → Prop) (st : St) : Prop :=
  match o.guard with
  | none => opB P Γ o K st
  | some (j, b) =>
    match gval ops st.tmps j with
    | .t (.bool c) => (c = b → opB P Γ o K st) ∧ (c = (!b) → K (st.put o.dst (.tup [])))
    | .tup [] => K (st.put o.dst (.tup []))
    | _ => False

def nest (P : Program) (Γ : Pures) (ops : Array Oper) : List Nat → (St → Prop) → St → Prop
  | [], K, st => K st
  | i :: r, K, st => match ops[i]? with | none => nest P Γ ops r K st | some o => opN P Γ ops o (nest P Γ ops r K) st

theorem ValsAR.set {ρ : Inj} {F : Fz} {w : World} {vs : Array Value} {as : List AV} (h : ValsAR ρ F w vs as) (d : Nat) {v : Value} {a : AV} (hv : AR ρ F w v a) : ValsAR ρ F w (vs.setIfInBounds d v) (as.set d a) := by
  refine ⟨by simp [h.1], fun i x y hx hy => ?_⟩
  rw [Array.getElem?_setIfInBounds] at hx
  rw [List.getElem?_set] at hy
  split at hx
  · rename_i e
    subst e
    split at hx
    · rename_i hlt
      rw [if_pos rfl, if_pos (by rw [← h.1]; exact hlt)] at hy
      cases hx; cases hy; exact hv
    · cases hx
  · rename_i e
    rw [if_neg e] at hy
    exact h.2 i x y hx hy

theorem Sim.put {ρ0 : Inj} {F0 : Fz} {W : World} {ρ ρ' : Inj} {F F' : Fz} {a : Act} {w w' : World} {st : St} {σ' : Heap} (h : Sim ρ0 F0 W ρ F a w st) (s : Stp ρ F w ρ' F' w' σ') (d : Option Tmp) {v : Value} {x : AV} (hv : AR ρ' F' w' v x) :
    Sim ρ0 F0 W ρ' F' (a.put d v) w' { (st.put d x) with σ := σ' } := by
  have ht := h.tmps.step s
  cases d with
  | none => exact ⟨h.defers, ht, h.stp.trans s⟩
  | some d => exact ⟨h.defers, ht.set d hv, h.stp.trans s⟩

/-- the exits of the concrete machine, told by the abstract one -/
def LQ (ρ0 : Inj) (F0 : Fz) (W : World) (Q : Exit → St → Prop) : Exit → Act → World → Prop := fun e a w => ∃ st ρ F, Sim ρ0 F0 W ρ F a w st ∧ Q e st

theorem callFunc_run {P : Program} {f : FuncId} (h : callable P f = true) (args : Array Value) (w : World) : (callFunc f args).run P w = .ok (.enter f args) w := by
  unfold callable at h
  split at h
  · rename_i fn hf
    simp only [Bool.and_eq_true, Bool.not_eq_true', Option.isSome_iff_exists] at h
    obtain ⟨h1, c, h2⟩ := h
    have h1' : fn.name ≠ "runtime.NumGoroutine" := by simpa using h1
    simp [callFunc, hf, h1', h2]
  · cases h

section
variable {P : Program} {ρ0 : Inj} {F0 : Fz} {W : World}

theorem call_exec {ρ : Inj} {F : Fz} {a : Act} {w : World} {st : St} (hs : Sim ρ0 F0 W ρ F a w st) {o : Oper} {f : FuncId} {args : List AV} (hc : callOf (evO st.tmps) o.op = some (f, args)) (hf : callable P f = true) :
    ∃ vs, (execOp a.eval o).run P w = .ok (.enter f vs) w ∧ ValsAR ρ F w vs args := by
  unfold callOf at hc
  split at hc
  · rename_i g xs tys hop
    split at hc
    · rename_i h a1 a2 hg
      simp only [Option.some.injEq, Prod.mk.injEq] at hc
      obtain ⟨rfl, rfl⟩ := hc
      have hx := AR.evO hs.tmps g
      rw [hg] at hx
      generalize hG : a.eval g = G at hx
      cases hx with
      | fn h1s h1 h2s h2 =>
        rename_i v1 v2
        refine ⟨v1 ++ xs.map a.eval ++ v2, ?_, ?_⟩
        · simp [execOp, hop, resolve, hG, Deferred.ofValue, invoke, callFunc_run hf]
        · have hl := listEv (ρ := ρ) (F := F) (w := w) hs.tmps (l := xs)
          have app : ∀ {x y : Array Value} {p q : List AV}, ValsAR ρ F w x p → ValsAR ρ F w y q → ValsAR ρ F w (x ++ y) (p ++ q) := fun {x y p q} hx hy => by
            refine ⟨by simp [hx.1, hy.1], fun i v b h3 h4 => ?_⟩
            by_cases hi : i < p.length
            · rw [Array.getElem?_append_left (by rw [hx.1]; exact hi)] at h3
              rw [List.getElem?_append_left hi] at h4
              exact hx.2 i v b h3 h4
            · rw [Array.getElem?_append_right (by rw [hx.1]; omega)] at h3
              rw [List.getElem?_append_right (by omega)] at h4
              rw [hx.1] at h3
              exact hy.2 _ v b h3 h4
          exact app (app ⟨h1s, h1⟩ hl) ⟨h2s, h2⟩
    · cases hc
  · cases hc

theorem opB_sound {ρ : Inj} {F : Fz} {a : Act} {w : World} {st : St} (hs : Sim ρ0 F0 W ρ F a w st) {Γ : Pures} {o : Oper} {K : St → Prop} (h : opB P Γ o K st) {next : Act → World → Prop} {Q : Exit → Act → World → Prop}
    (hk : ∀ ρ F a w st, Sim ρ0 F0 W ρ F a w st → K st → next a w) : o.wp P a w next Q := by
  unfold opB at h
  split at h
  · rename_i f args hc
    have key : ∀ R : AV → Heap → Prop, callable P f = true → FSpec P f args st.σ R → (∀ r σ', R r σ' → K { (st.put o.dst r) with σ := σ' }) → o.wp P a w next Q := fun R hcall hspec hR => by
      obtain ⟨vs, hrun, hvs⟩ := call_exec hs hc hcall
      unfold Oper.wp
      rw [hrun, Oper.upon_enter]
      refine (hspec ρ F w vs hvs hs.stp.heap).mono fun e w' hpost => ?_
      obtain ⟨v, rfl, r, σ', ρ', F', hr, hv, hst⟩ := hpost
      exact hk _ _ _ _ _ (hs.put hst o.dst hv) (hR r σ' hr)
    split at h
    · obtain ⟨R, ⟨⟨h1, h2, h3⟩, _⟩, h4⟩ := h
      refine key _ h1 (FSpec.frame h2.of_res h3 fun r τ hR k hk => ?_) fun r σ' hr => ?_
      · rcases (h4 r τ hR).1 k hk with h | h
        · exact .inl h
        · exact .inr h.2.2
      · obtain ⟨τ, hR, rfl⟩ := hr
        exact (h4 r τ hR).2
    · split at h
      · obtain ⟨⟨h1, h2, h3⟩, h4⟩ := h
        refine key _ h1 (h2 st.σ) fun r σ' hr => ?_
        obtain ⟨hr1, rfl⟩ := hr
        obtain ⟨x, hx, rfl⟩ := hr1
        have := h4 x hx
        cases hd : o.dst with
        | none => simpa [St.put, hd] using this
        | some d => simpa [St.put, hd] using this
      · split at h
        · obtain ⟨⟨h1, h2, h3⟩, h4⟩ := h
          exact key _ h1 h2 fun r σ' ⟨x, hx, e1, e2⟩ => by subst e1; subst e2; exact h4 x hx
        · obtain ⟨_, R, ⟨h1, h2, _⟩, h4⟩ := h
          exact key _ h1 h2 h4
  · split at h
    · rename_i r hr
      obtain ⟨⟨hd, _⟩, hK⟩ := h
      obtain ⟨v, w', ρ', F', hrun, x, hx, hv, hst⟩ := nx_sound (P := P) hs.tmps hs.stp.heap hr hd
      have := hk _ _ _ _ _ (hs.put hst o.dst hv) (hK x hx)
      unfold Oper.wp
      rcases hrun with h1 | ⟨h1, rfl⟩
      · rw [h1]; exact this
      · rw [h1]; exact this
    · obtain ⟨hd, hK⟩ := h
      obtain ⟨v, w', ρ', F', hrun, hv, hst⟩ := sem_sound (P := P) hs.tmps hs.stp.heap hd
      have := hk _ _ _ _ _ (hs.put hst o.dst hv) hK
      unfold Oper.wp
      rcases hrun with h1 | ⟨h1, rfl⟩
      · rw [h1]; exact this
      · rw [h1]; exact this

theorem yielded_of {ρ : Inj} {F : Fz} {a : Act} {w : World} {st : St} (hs : Sim ρ0 F0 W ρ F a w st) {ops : Array Oper} {j : Nat} :
    (∀ c, gval ops st.tmps j = .t (.bool c) → yielded ops a.tmps j = some c) ∧ (gval ops st.tmps j = .tup [] → yielded ops a.tmps j = none) := by
  unfold gval yielded
  cases hd : (ops[j]?).bind (·.dst) with
  | none => exact ⟨fun c h => by simp at h, fun h => by simp at h⟩
  | some d =>
    simp only [Option.bind_some]
    rcases Nat.lt_or_ge d st.tmps.length with hlt | hge
    · have hlt' : d < a.tmps.size := by rw [hs.tmps.1]; exact hlt
      have e1 : st.tmps.getD d .any = st.tmps[d] := by simp [List.getD, hlt]
      have e2 : a.tmps[d]? = some a.tmps[d] := by simp [hlt']
      have hr := hs.tmps.2 d _ _ e2 (List.getElem?_eq_getElem hlt)
      rw [e1, e2]
      refine ⟨fun c h => ?_, fun h => ?_⟩
      · rw [h] at hr
        generalize a.tmps[d] = V at hr
        cases hr with | t hr => cases hr; rfl
      · rw [h] at hr
        generalize a.tmps[d] = V at hr
        cases hr with
        | tup hs h => rfl
    · have e1 : st.tmps.getD d .any = .any := by simp [List.getD, hge]
      refine ⟨fun c h => ?_, fun h => ?_⟩
      · rw [e1] at h; cases h
      · rw [e1] at h; cases h

theorem opN_sound {ρ : Inj} {F : Fz} {a : Act} {w : World} {st : St} (hs : Sim ρ0 F0 W ρ F a w st) {ops : Array Oper} {Γ : Pures} {i : Nat} {o : Oper} (hi : ops[i]? = some o) {K : St → Prop} (h : opN P Γ ops o K st) {next : Act → World → Prop} {Q : Exit → Act → World → Prop}
    (hk : ∀ ρ F a w st, Sim ρ0 F0 W ρ F a w st → K st → next a w) : wpOp P ops Q i next a w := by
  have skip : K (st.put o.dst (.tup [])) → next (a.put o.dst undef) w := fun hK => by
    refine hk ρ F (a.put o.dst undef) w (st.put o.dst (.tup [])) ?_ hK
    have := hs.put (Stp.refl hs.stp.heap) o.dst (v := undef) (x := .tup []) (.tup rfl (fun i v a h => by simp at h))
    cases hd : o.dst with
    | none => simpa [St.put, hd] using this
    | some d => simpa [St.put, hd] using this
  unfold wpOp
  rw [hi]
  unfold opN at h
  split at h
  · rename_i hg
    have hw : Region.wanted o (yielded ops a.tmps) = true := by simp [Region.wanted, hg]
    simp only [hw, if_true]
    exact .inl (opB_sound hs h hk)
  · rename_i j b hg
    split at h
    · rename_i c hc
      have hy := (yielded_of hs).1 c hc
      by_cases hcb : c = b
      · have hw : Region.wanted o (yielded ops a.tmps) = true := by simp [Region.wanted, hg, hy, hcb]
        simp only [hw, if_true]
        exact .inl (opB_sound hs (h.1 hcb) hk)
      · have hw : Region.wanted o (yielded ops a.tmps) = false := by simp [Region.wanted, hg, hy, hcb]
        simp only [hw, Bool.false_eq_true, if_false]
        exact skip (h.2 (by cases c <;> cases b <;> simp_all))
    · rename_i hc
      have hy := (yielded_of hs).2 hc
      have hw : Region.wanted o (yielded ops a.tmps) = false := by simp [Region.wanted, hg, hy]
      simp only [hw, Bool.false_eq_true, if_false]
      exact skip h
    · exact h.elim

theorem nest_sound {ops : Array Oper} {Γ : Pures} {K : St → Prop} {Q : Exit → Act → World → Prop} (hk : ∀ ρ F a w st, Sim ρ0 F0 W ρ F a w st → K st → Q .normal a w) :
    ∀ (l : List Nat) (ρ : Inj) (F : Fz) (a : Act) (w : World) (st : St), Sim ρ0 F0 W ρ F a w st → nest P Γ ops l K st → wpOps P ops Q l a w := by
  intro l
  induction l with
  | nil => intro ρ F a w st hs h; exact hk _ _ _ _ _ hs h
  | cons i r ih =>
    intro ρ F a w st hs h
    rw [wpOps_cons]
    unfold nest at h
    split at h
    · rename_i hi
      unfold wpOp
      rw [hi]
      exact ih _ _ _ _ _ hs h
    · rename_i o hi
      exact opN_sound hs hi h ih

end

end Go.Dm
