/-
  Rules for proofs about functions.
  Conditions: none.
-/
import Derived.Test.YtbhlfbkheijojaaEng25
namespace Go.Dm

theorem LoopP.mk {σ0 : Heap} {body : (Exit → St → Prop) → St → Prop} {Q : Exit → St → Prop} {st : St} {α : Type} (S : α → St) (inv : α → Prop) (μ : α → Nat) (x0 : α) (hw : Weak σ0 st (S x0)) (h0 : inv x0)
    (hb : ∀ x, inv x → body (thenQ (fun st' => ∃ y, Weak σ0 st' (S y) ∧ inv y ∧ μ y < μ x) Q) (S x))
    (hm : ∀ {Q Q' : Exit → St → Prop} {st : St}, (∀ e st, Q e st → Q' e st) → body Q st → body Q' st) : LoopP σ0 body Q st := by
  refine ⟨fun n st => ∃ x, st = S x ∧ inv x ∧ μ x = n, ⟨_, _, hw, x0, rfl, h0, rfl⟩, ?_⟩
  rintro n st ⟨x, rfl, hi, rfl⟩
  refine hm (fun e st h => ?_) (hb x hi)
  cases e with
  | normal => obtain ⟨y, h1, h2, h3⟩ := h; exact ⟨_, _, h3, h1, y, rfl, h2, rfl⟩
  | _ => exact h

theorem thenQ_mono {K K' : St → Prop} {Q Q' : Exit → St → Prop} (h1 : ∀ st, K st → K' st) (h2 : ∀ e st, Q e st → Q' e st) (e : Exit) (st : St) (h : thenQ K Q e st) : thenQ K' Q' e st := by
  cases e <;> first | exact h1 _ h | exact h2 _ _ h

theorem CondP_mono {c : AV} {x x' y y' : Prop} (h1 : x → x') (h2 : y → y') (h : CondP c x y) : CondP c x' y' := by
  unfold CondP at h ⊢
  split at h
  · rw [bcase_iff] at h ⊢; exact ⟨fun e => h1 (h.1 e), fun e => h2 (h.2 e)⟩
  · exact ⟨fun e => h1 (h.1 e), fun e => h2 (h.2 e)⟩
  · exact h.elim

theorem exec_mono {P : Program} {Γ : Pures} {σ0 : Heap} : ∀ (c : Code) {Q Q' : Exit → St → Prop} {st : St}, (∀ e st, Q e st → Q' e st) → exec P Γ σ0 c Q st → exec P Γ σ0 c Q' st := by
  intro c
  induction c with
  | skip => intro Q Q' st h k; exact h _ _ k
  | region id ops d =>
    intro Q Q' st h k
    cases d with
    | false => simp only [exec, nestM_eq] at k ⊢; exact nest_mono _ (fun st => h _ st) k
    | true => simp only [exec, nestM_eq] at k ⊢; exact ⟨k.1, nest_mono _ (fun st x => ⟨x.1, h _ st x.2⟩) k.2⟩
  | seq x y ihx ihy => intro Q Q' st h k; exact ihx (thenQ_mono (fun st => ihy h) h) k
  | cond c x y ihx ihy => intro Q Q' st h k; exact CondP_mono (ihx h) (ihy h) k
  | block id c ih =>
    intro Q Q' st h k
    refine ih (fun e st k => ?_) k
    cases e with
    | exit i =>
      simp only [inBlockQ] at k ⊢
      split
      · rename_i e; rw [if_pos e] at k; exact h _ _ k
      · rename_i e; rw [if_neg e] at k; exact h _ _ k
    | _ => exact h _ _ k
  | loop c ih =>
    intro Q Q' st h k
    obtain ⟨I, h0, hb⟩ := k
    exact ⟨I, h0, fun n st hi => ih (thenQ_mono (fun _ k => k) h) (hb n st hi)⟩
  | rangeFunc f ps x y ihx ihy => intro Q Q' st h k; exact k.elim
  | exit id => intro Q Q' st h k; exact h _ _ k
  | scope c ih =>
    intro Q Q' st h k
    refine ih (fun e st k => ?_) k
    cases e with
    | goto l => exact k
    | _ => exact h _ _ k
  | label l => intro Q Q' st h k; exact h _ _ k
  | goto l => intro Q Q' st h k; exact k.elim
  | ret => intro Q Q' st h k; exact h _ _ k
  | refuse s => intro Q Q' st h k; exact k.elim

/-- A LOOP, by an invariant over values -/
theorem loop_mk {P : Program} {Γ : Pures} {σ0 : Heap} {c : Code} {Q : Exit → St → Prop} {st : St} {α : Type} (S : α → St) (inv : α → Prop) (μ : α → Nat) (x0 : α) (hw : Weak σ0 st (S x0)) (h0 : inv x0)
    (hb : ∀ x, inv x → exec P Γ σ0 c (thenQ (fun st' => ∃ y, Weak σ0 st' (S y) ∧ inv y ∧ μ y < μ x) Q) (S x)) : LoopP σ0 (exec P Γ σ0 c) Q st :=
  LoopP.mk S inv μ x0 hw h0 hb fun h k => exec_mono c h k

theorem RetV.now {σ0 : Heap} {R : AV → Heap → Prop} {r : AV} {σ : Heap} (h : R r σ) : RetV σ0 R r σ := ⟨r, σ, Weak.refl _ _, h⟩
theorem RetV.weak {σ0 : Heap} {R : AV → Heap → Prop} {r r' : AV} {σ σ' : Heap} (h : Weak σ0 ⟨[r], σ⟩ ⟨[r'], σ'⟩) (k : RetV σ0 R r' σ') : RetV σ0 R r σ := by
  obtain ⟨x, y, h1, h2⟩ := k
  exact ⟨x, y, h.trans h1, h2⟩
theorem RetV.one {σ0 : Heap} {v r : AV} {σ : Heap} (h : r = v) : RetV σ0 (fun r _ => (Ctr.one v).R r) r σ := RetV.now ⟨(), trivial, h⟩
theorem RetV.ex {σ0 : Heap} {C : Ctr} {r : AV} {σ : Heap} (x : C.α) (hx : C.post x) (h : r = C.val x) : RetV σ0 (fun r _ => C.R r) r σ := RetV.now ⟨x, hx, h⟩
/-- a row of one's own handed back as data -/
theorem RetV.frz {σ0 : Heap} {R : AV → Heap → Prop} {r : AV} {h : List (Nat × Blk)} (k : Nat) {tag : Tag} {sz : Nat} (es : List (List Tree)) (hk : hp h k = some (.row tag sz (es.map fun e => e.map .t)))
    (hr : RetV σ0 R (mapAV (frzLeaf k es) r) (hp (frzHp k es h))) : RetV σ0 R r (hp h) := hr.weak (Weak.frz k es hk)

def lv (l : List Nat) (ts : List AV) : List AV := l.map fun i => ts.getD i .any

/-- the slots l hold vs, the others are forgotten -/
def spread (n : Nat) (l : List Nat) (vs : List AV) : List AV := (List.range n).map fun i => match l.findIdx? (· == i) with | some j => vs.getD j .any | none => .any

theorem Weak.live {σ0 : Heap} {ts : List AV} {σ σ' : Heap} {l : List Nat} {vs : List AV} (h : Weak σ0 ⟨lv l ts, σ⟩ ⟨vs, σ'⟩) (hl : vs.length = l.length) : Weak σ0 ⟨ts, σ⟩ ⟨spread ts.length l vs, σ'⟩ := by
  intro ρ0 F0 W ρ F a w hE s
  have hget : ∀ i, AR ρ F w (a.tmps.getD i undef) (ts.getD i .any) := fun i => by
    rcases Nat.lt_or_ge i ts.length with hlt | hge
    · have hlt' : i < a.tmps.size := by rw [s.tmps.1]; exact hlt
      have := s.tmps.2 i _ _ (Array.getElem?_eq_getElem hlt') (List.getElem?_eq_getElem hlt)
      simpa [List.getD, hlt, Array.getD, hlt'] using this
    · have : ts.getD i .any = .any := by simp [List.getD, hge]
      rw [this]; exact .any _
  have s1 : Sim ρ0 F0 W ρ F { tmps := (l.map fun i => a.tmps.getD i undef).toArray, defers := [] } w ⟨lv l ts, σ⟩ := by
    refine ⟨rfl, ⟨by simp [lv], fun i x y hx hy => ?_⟩, s.stp⟩
    simp only [lv, List.getElem?_map, Option.map_eq_some_iff] at hy
    simp only [List.getElem?_toArray, List.getElem?_map, Option.map_eq_some_iff] at hx
    obtain ⟨j, hj, rfl⟩ := hx
    obtain ⟨j', hj', rfl⟩ := hy
    rw [hj] at hj'; cases hj'
    exact hget j
  obtain ⟨ρ', F', s2⟩ := h ρ0 F0 W ρ F _ w hE s1
  refine ⟨ρ', F', s.defers, ⟨by rw [s.tmps.1]; simp [spread], fun i x y hx hy => ?_⟩, s2.stp⟩
  simp only [spread, List.getElem?_map, Option.map_eq_some_iff] at hy
  obtain ⟨i', hi', rfl⟩ := hy
  have : i' = i := by
    rw [List.getElem?_range (by rcases Nat.lt_or_ge i ts.length with h | h; exact h; simp [h] at hi')] at hi'
    exact (Option.some.inj hi').symm
  subst this
  split
  · rename_i j hj
    obtain ⟨hjl, hje, _⟩ := List.findIdx?_eq_some_iff_getElem.1 hj
    have hje : l[j] = i' := by simpa using hje
    have hjv : j < vs.length := by omega
    have e1 : vs.getD j .any = vs[j] := by simp [List.getD, hjv]
    rw [e1]
    refine s2.tmps.2 j x _ ?_ (List.getElem?_eq_getElem hjv)
    simp only [List.getElem?_toArray, List.getElem?_map, List.getElem?_eq_getElem hjl, hje, Option.map_some]
    congr 1
    rw [Array.getD_eq_getD_getElem?, hx]; rfl
  · exact .any _

/-- A LOOP, by an invariant over values that live in some slots -/
theorem loop_live {P : Program} {Γ : Pures} {σ0 : Heap} {c : Code} {Q : Exit → St → Prop} {ts : List AV} {σ : Heap} {α : Type} (n : Nat) (l : List Nat) (V : α → List AV) (H : α → Heap) (inv : α → Prop) (μ : α → Nat) (x0 : α)
    (hn : ts.length = n) (hl : ∀ x, (V x).length = l.length) (hw : Weak σ0 ⟨lv l ts, σ⟩ ⟨V x0, H x0⟩) (h0 : inv x0)
    (hb : ∀ x, inv x → ∀ K : List AV → Heap → Prop, (∀ y vs σ', Weak σ0 ⟨vs, σ'⟩ ⟨V y, H y⟩ → inv y → μ y < μ x → K vs σ') →
      exec P Γ σ0 c (thenQ (fun st' => st'.tmps.length = n ∧ K (lv l st'.tmps) st'.σ) Q) ⟨spread n l (V x), H x⟩) : LoopP σ0 (exec P Γ σ0 c) Q ⟨ts, σ⟩ := by
  refine loop_mk (fun x => ⟨spread n l (V x), H x⟩) inv μ x0 ?_ h0 fun x hx => exec_mono c (fun e st h => ?_) (hb x hx (fun vs σ' => ∃ y, Weak σ0 ⟨vs, σ'⟩ ⟨V y, H y⟩ ∧ inv y ∧ μ y < μ x) fun y vs σ' h1 h2 h3 => ⟨y, h1, h2, h3⟩)
  · have := hw.live (hl x0); rwa [hn] at this
  · cases e with
    | normal =>
      obtain ⟨h1, y, h2, h3⟩ := h
      refine ⟨y, ?_, h3⟩
      have := h2.live (hl y)
      rwa [h1] at this
    | _ => exact h

/-- the n-th part of a piece of code -/
def kid : Nat → Code → Code
  | 0, .seq a _ => a
  | 1, .seq _ b => b
  | 0, .cond _ a _ => a
  | 1, .cond _ _ b => b
  | 0, .block _ c => c
  | 0, .loop c => c
  | 0, .scope c => c
  | _, c => c

def bodyOf (f : Func) : Code := f.body.getD .skip

theorem bcase_of {c : Bool} {x y : Prop} (h1 : c = true → x) (h2 : c = false → y) : bcase c x y := bcase_iff.2 ⟨h1, h2⟩

@[simp] theorem isI_int {k k' : IntKind} {n : Int} : isI k (.t (.int k' n)) = (k' = k) := rfl
@[simp] theorem isB_bool {b : Bool} : isB (.t (.bool b)) = True := rfl
@[simp] theorem isS_str {s : ByteArray} : isS (.t (.str s)) = True := rfl
@[simp] theorem isR_rows {es : List (List Tree)} : isR (.t (.rows es)) = True := rfl
@[simp] theorem toI_int {k : IntKind} {n : Int} : toI (.int k n) = n := rfl
@[simp] theorem toB_bool {b : Bool} : toB (.bool b) = b := rfl
@[simp] theorem toS_str {s : ByteArray} : toS (.str s) = s := rfl
@[simp] theorem toR_rows {es : List (List Tree)} : toR (.rows es) = es := rfl
@[simp] theorem toT_t {x : Tree} : toT (.t x) = x := rfl

theorem PSpec.of_vc {P : Program} {Γ : Pures} {f : FuncId} {fn : Func} {c : Code} {args : List AV} {C : Ctr} {V : Prop} (hm : P.follows .mixedOrders = true) (hf : P.funcs[f]? = some fn) (hb : fn.body = some c) (hc : callable P f = true)
    (hp : pureAVs args = true) (hR : ∀ x, C.post x → pureAV (C.val x) = true) (hne : ∃ x, C.post x)
    (e : exec P Γ emp c (retQ P emp fn fun r _ => C.R r) ⟨args ++ List.replicate (fn.ntmps - args.length) (.tup []), emp⟩ = V) (h : V) : PSpec P f args C.R := by
  refine PSpec.of_exec hm hf hb hc hp (fun r ⟨x, hx, hr⟩ => hr ▸ hR x hx) ?_ (e ▸ h)
  obtain ⟨x, hx⟩ := hne
  exact ⟨_, x, hx, rfl⟩

end Go.Dm
