/-
  Operations look at, and write, the memory that they name.
  Conditions: none.
-/
import Derived.Test.YtbhlfbkheijojaaEng16
namespace Go.Dm

def keysAV : AV → List Nat
  | .ptr k _ _ => [k]
  | .own k _ _ _ => [k]
  | .mapr k => [k]
  | .it k => [k]
  | _ => []

@[simp] theorem keysAV_sof (x : AV) : keysAV (sof x) = keysAV x := by cases x <;> rfl
/-- the blocks that an operation names -/
def keysOp (d : Nat) (ev : Operand → AV) (o : Op) : List Nat := d :: o.operands.toList.flatMap fun x => keysAV (ev x)

def EqOn (σ σ' : Heap) (ks : List Nat) : Prop := ∀ k ∈ ks, σ k = σ' k

theorem EqOn.left {σ σ' : Heap} {k : Nat} {ks : List Nat} (h : EqOn σ σ' (k :: ks)) : σ k = σ' k := h k (by simp)
theorem EqOn.sub {σ σ' : Heap} {ks ls : List Nat} (h : EqOn σ σ' ks) (hs : ∀ k ∈ ls, k ∈ ks) : EqOn σ σ' ls := fun k hk => h k (hs k hk)

variable {σ σ' : Heap} {d : Nat}

theorem aLoad_eq {ag : Bool} {n : Nat} {p : AV} (h : EqOn σ σ' (keysAV p)) : aLoad ag n p σ = aLoad ag n p σ' := by
  unfold aLoad; cases p with
  | t y => cases y <;> simp_all [keysAV, EqOn]
  | _ => simp_all [keysAV, EqOn]
theorem aLoadK_eq {ag : Bool} {ks : List Kd} {p : AV} (h : EqOn σ σ' (keysAV p)) : aLoadK ag ks p σ = aLoadK ag ks p σ' := by
  unfold aLoadK; cases p with
  | t y => cases y <;> simp_all [keysAV, EqOn]
  | _ => simp_all [keysAV, EqOn]
theorem aLookupK_eq {ok : Bool} {kd : Nat} {ag : Bool} {ks : List Kd} {z m k : AV} (h : EqOn σ σ' (keysAV m)) : aLookupK ok kd ag ks z m k σ = aLookupK ok kd ag ks z m k σ' := by
  unfold aLookupK; cases m with
  | t y => cases y <;> simp_all [keysAV, EqOn]
  | _ => simp_all [keysAV, EqOn]
theorem aStore_eq {n : Nat} {p v : AV} (h : EqOn σ σ' (keysAV p)) : aStore n p v σ = aStore n p v σ' := by
  unfold aStore; cases p with
  | t y => cases y <;> simp_all [keysAV, EqOn]
  | _ => simp_all [keysAV, EqOn]
theorem newVarV_eq {cs : List AV} (h : EqOn σ σ' [d]) : newVarV d cs σ = newVarV d cs σ' := by
  unfold newVarV; simp_all [EqOn]
theorem bslV_eq {sz : Nat} {ps : List AV} (h : EqOn σ σ' [d]) : bslV d sz ps σ = bslV d sz ps σ' := by
  unfold bslV; simp_all [EqOn]
theorem aMake_eq {zs : List AV} {b : Nat} {l c : AV} (h : EqOn σ σ' [d]) : aMake d zs b l c σ = aMake d zs b l c σ' := by
  unfold aMake; simp_all [EqOn]
theorem srcOf_eq {x : AV} (h : EqOn σ σ' (keysAV x)) : srcOf x σ = srcOf x σ' := by
  unfold srcOf; cases x with
  | t y => cases y <;> simp_all [keysAV, EqOn]
  | _ => simp_all [keysAV, EqOn]
theorem srcOk_eq {sz : Nat} {x : AV} (h : EqOn σ σ' (keysAV x)) : srcOk sz x σ = srcOk sz x σ' := by
  unfold srcOk; cases x with
  | t y => cases y <;> simp_all [keysAV, EqOn]
  | _ => simp_all [keysAV, EqOn]
theorem appNew_eq {sz b : Nat} {x s : AV} (h1 : σ d = σ' d) (h2 : EqOn σ σ' (keysAV x)) (h3 : EqOn σ σ' (keysAV s)) : appNew d sz b x s σ = appNew d sz b x s σ' := by
  unfold appNew; rw [srcOf_eq h2, srcOf_eq h3, srcOk_eq h2, srcOk_eq h3, h1]
theorem appOwn_eq {sz b k off len : Nat} {s : AV} (h1 : σ d = σ' d) (h2 : σ k = σ' k) (h3 : EqOn σ σ' (keysAV s)) : appOwn d sz b k off len s σ = appOwn d sz b k off len s σ' := by
  unfold appOwn; rw [srcOf_eq h3, srcOk_eq h3, h1, h2]
theorem appEnd_eq {sz b k off len : Nat} {s : AV} (h1 : σ d = σ' d) (h2 : σ k = σ' k) (h3 : EqOn σ σ' (keysAV s)) : appEnd d sz b k off len s σ = appEnd d sz b k off len s σ' := by
  unfold appEnd; rw [srcOf_eq h3, srcOk_eq h3, h1, h2]
theorem aIdx_eq {arr : Option Nat} {sz : Nat} {x i : AV} (h : EqOn σ σ' (keysAV x)) : aIdx arr sz x i σ = aIdx arr sz x i σ' := by
  unfold aIdx; cases arr <;> cases x with
  | t y => cases y <;> simp_all [keysAV, EqOn]
  | _ => simp_all [keysAV, EqOn]
theorem aSlice'_eq {sz : Nat} {x : AV} {lo hi mx : Option AV} (h : EqOn σ σ' (keysAV x)) : aSlice' sz x lo hi mx σ = aSlice' sz x lo hi mx σ' := by
  unfold aSlice'; cases x with
  | t y => cases y <;> simp_all [keysAV, EqOn]
  | _ => simp_all [keysAV, EqOn]
theorem aSl_eq {sz : Nat} {x : AV} {lo hi mx : Option AV} (h : EqOn σ σ' (keysAV x)) : aSl sz x lo hi mx σ = aSl sz x lo hi mx σ' := by
  unfold aSl; cases mx <;> simp only [aSlice'_eq h]
theorem aLen_eq {x : AV} (h : EqOn σ σ' (keysAV x)) : aLen x σ = aLen x σ' := by
  unfold aLen; cases x with
  | t y => cases y <;> simp_all [keysAV, EqOn]
  | _ => simp_all [keysAV, EqOn]
theorem aLenM_eq {x : AV} (h : EqOn σ σ' (keysAV x)) : aLenM x σ = aLenM x σ' := by
  unfold aLenM; cases x with
  | t y => cases y <;> simp_all [keysAV, EqOn]
  | _ => simp_all [keysAV, EqOn]
theorem aClear_eq {zs : List AV} {x : AV} (h : EqOn σ σ' (keysAV x)) : aClear zs x σ = aClear zs x σ' := by
  unfold aClear; cases x with
  | t y => cases y <;> simp_all [keysAV, EqOn]
  | tsl es => cases es <;> rfl
  | _ => simp_all [keysAV, EqOn]
theorem aLookup_eq {ok : Bool} {kd : Nat} {z m k : AV} (h : EqOn σ σ' (keysAV m)) : aLookup ok kd z m k σ = aLookup ok kd z m k σ' := by
  unfold aLookup; cases m with
  | t y => cases y <;> simp_all [keysAV, EqOn]
  | _ => simp_all [keysAV, EqOn]
theorem aMapUpd_eq {kd : Nat} {m k v : AV} (h : EqOn σ σ' (keysAV m)) : aMapUpd kd m k v σ = aMapUpd kd m k v σ' := by
  unfold aMapUpd; cases keyOf k <;> cases m with
  | t y => cases y <;> simp_all [keysAV, EqOn]
  | _ => simp_all [keysAV, EqOn]

theorem semBuiltin_eq {P : Program} {b : Builtin} {ts : List TypeId} {args : List AV} (h : EqOn σ σ' (d :: args.flatMap keysAV)) : semBuiltin P d b ts args σ = semBuiltin P d b ts args σ' := by
  have hd := h.left
  unfold semBuiltin
  split
  · rename_i t x
    have hx : EqOn σ σ' (keysAV x) := h.sub (by simp; intro k hk; simp [hk])
    simp only [aLen_eq hx, aLenM_eq hx]
  · rename_i x s
    have hx : EqOn σ σ' (keysAV x) := h.sub (by simp; intro k hk; simp [hk])
    have hs : EqOn σ σ' (keysAV s) := h.sub (by simp; intro k hk; simp [hk])
    split
    · split
      · split
        · exact appNew_eq hd hx hs
        · exact appNew_eq hd hx hs
        · exact appEnd_eq hd (hx _ (by simp [keysAV])) hs
        · rfl
      · rfl
    · rfl
  · rfl
  · rfl
  · rename_i t x
    have hx : EqOn σ σ' (keysAV x) := h.sub (by simp; intro k hk; simp [hk])
    simp only [aClear_eq hx]
  · rfl

theorem semOp_eq {P : Program} {ev : Operand → AV} {o : Op} (h : EqOn σ σ' (keysOp d ev o)) : semOp P d ev o σ = semOp P d ev o σ' := by
  have hd := h.left
  have hm : ∀ x, x ∈ o.operands.toList → EqOn σ σ' (keysAV (ev x)) := fun x hx => h.sub fun k hk => by
    simp only [keysOp, List.mem_cons, List.mem_flatMap]; exact .inr ⟨x, hx, hk⟩
  have hd1 : EqOn σ σ' [d] := h.sub (by simp [keysOp])
  have all : ∀ (l : Array Operand), (∀ x ∈ l.toList, x ∈ o.operands.toList) → EqOn σ σ' (d :: (l.toList.map ev).flatMap keysAV) := fun l hl k hk => by
    simp only [List.mem_cons, List.mem_flatMap, List.mem_map] at hk
    rcases hk with rfl | ⟨_, ⟨x, hx, rfl⟩, hk⟩
    · exact hd
    · exact hm x (hl x hx) k hk
  cases o with
  | alloc t => simp only [semOp, newVarV_eq (cs := _) hd1]
  | box t x => simp only [semOp, newVarV_eq (cs := _) hd1]
  | buildSlice t n ps => simp only [semOp, bslV_eq hd1]
  | load t p => simp only [semOp, aLoadK_eq (hm p (by simp [Op.operands]))]
  | store t p x => simp only [semOp, aStore_eq (hm p (by simp [Op.operands]))]
  | makeMap t r => cases r with
    | none => simp only [semOp, hd]
    | some r => rfl
  | makeSlice t l c => simp only [semOp, aMake_eq hd1]
  | slice t x lo hi mx =>
    have hx : EqOn σ σ' (keysAV (sof (ev x))) := by rw [keysAV_sof]; exact hm x (by simp [Op.operands])
    simp only [semOp, aSl_eq hx]
  | indexAddr t x i => simp only [semOp, aIdx_eq (hm x (by simp [Op.operands]))]
  | lookup t m k ok => simp only [semOp, aLookupK_eq (hm m (by simp [Op.operands]))]
  | mapUpdate t m k x => simp only [semOp, aMapUpd_eq (hm m (by simp [Op.operands]))]
  | insert t m k x => simp only [semOp, aMapUpd_eq (hm m (by simp [Op.operands]))]
  | call c =>
    obtain ⟨ce, args, tys⟩ := c
    cases ce with
    | builtin b =>
      simp only [semOp]
      have := all args (fun x hx => by simpa [Op.operands, Call.operands] using hx)
      refine semBuiltin_eq ?_
      simpa [List.flatMap_map, Function.comp_def] using this
    | value f => rfl
    | invoke r m => rfl
  | makeFunc f a b => cases f <;> rfl
  | _ => rfl

/-- operations that neither look at memory nor write any -/
def opHeap : Op → Bool
  | .move _ | .assign _ | .pick .. | .build .. | .nilCheck _ | .binOp .. | .unOp .. | .convert .. | .makeFunc .. | .fieldAddr .. | .field .. | .index .. | .range .. | .next .. | .entry .. | .extract .. => false
  | .call { callee := .value _, .. } => false
  | .call { callee := .invoke _ _, .. } => false
  | _ => true

/-- operations that write nothing -/
def opQuiet : Op → Bool
  | .move _ | .assign _ | .pick .. | .build .. | .nilCheck _ | .binOp .. | .unOp .. | .convert .. | .makeFunc .. | .fieldAddr .. | .field .. | .index .. | .range .. | .next .. | .entry .. | .extract .. => true
  | .load .. | .slice .. | .indexAddr .. | .lookup .. => true
  | .call { callee := .builtin .len, .. } | .call { callee := .builtin .min, .. } | .call { callee := .builtin .max, .. } => true
  | _ => false

theorem lift_ups {r : PV AV} : (lift r).val.2 = [] := rfl

theorem semOp_pure {P : Program} {ev : Operand → AV} {o : Op} (h : opHeap o = false) : semOp P d ev o σ = semOp P d ev o σ' := by
  cases o with
  | makeFunc f a b => cases f <;> rfl
  | call c =>
    obtain ⟨ce, args, tys⟩ := c
    cases ce with
    | builtin b => simp [opHeap] at h
    | value f => rfl
    | invoke r m => rfl
  | _ => first | rfl | (simp [opHeap] at h)

theorem semBuiltin_quiet {P : Program} {b : Builtin} {ts : List TypeId} {args : List AV} (h : b = .len ∨ b = .min ∨ b = .max) : (semBuiltin P d b ts args σ).val.2 = [] := by
  unfold semBuiltin
  split
  · split <;> rfl
  · simp at h
  · rfl
  · rfl
  · simp at h
  · rfl

theorem semOp_quiet {P : Program} {ev : Operand → AV} {o : Op} (h : opQuiet o = true) : (semOp P d ev o σ).val.2 = [] := by
  unfold semOp
  cases o with
  | call c =>
    obtain ⟨ce, args, tys⟩ := c
    cases ce with
    | builtin b => exact semBuiltin_quiet (by cases b <;> simp_all [opQuiet])
    | value f => rfl
    | invoke r m => rfl
  | makeMap t r => cases r <;> simp [opQuiet] at h
  | makeFunc f a b => cases f <;> rfl
  | _ => first | (simp [opQuiet] at h; done) | (simp only []; repeat (first | rfl | split))

theorem semOp_noups {P : Program} {ev : Operand → AV} {o : Op} (h : opHeap o = false) : (semOp P d ev o σ).val.2 = [] := by
  cases o with
  | call c =>
    obtain ⟨ce, args, tys⟩ := c
    cases ce with
    | builtin b => simp [opHeap] at h
    | value f => rfl
    | invoke r m => rfl
  | _ => first | exact semOp_quiet rfl | (simp [opHeap] at h; done)

theorem ups_keys_store {n : Nat} {p v : AV} : ∀ k ∈ (aStore n p v σ).val.map (·.1), k ∈ keysAV p := by
  unfold aStore
  split
  · split
    · simp [keysAV]
    · simp
  · simp
theorem ups_keys_map {kd : Nat} {m k v : AV} : ∀ x ∈ (aMapUpd kd m k v σ).val.map (·.1), x ∈ keysAV m := by
  unfold aMapUpd
  split
  · split
    · simp [keysAV]
    · simp [keysAV]
    · simp
  · simp

theorem semBuiltin_keys {P : Program} {b : Builtin} {ts : List TypeId} {args : List AV} : ∀ k ∈ (semBuiltin P d b ts args σ).val.2.map (·.1), k ∈ d :: args.flatMap keysAV := by
  unfold semBuiltin
  split
  · split <;> simp [lift, noU]
  · split
    · split
      · split
        · unfold appNew; split <;> simp
        · unfold appNew; split <;> simp
        · unfold appEnd; split <;> simp [keysAV]
        · simp [noU]
      · simp [noU]
    · simp [noU]
  · simp [lift]
  · simp [lift]
  · split
    · split
      · unfold aClear liftU
        split
        · simp
        · split <;> simp [keysAV]
        · simp
      · simp [noU]
    · simp [noU]
  · simp [noU]

theorem semOp_keys {P : Program} {ev : Operand → AV} {o : Op} : ∀ k ∈ (semOp P d ev o σ).val.2.map (·.1), k ∈ keysOp d ev o := by
  by_cases hq : opQuiet o = true
  · rw [semOp_quiet hq]; simp
  cases o with
  | alloc t => simp only [semOp, keysOp]; split <;> simp [newVarV, noU]
  | box t x => simp only [semOp, keysOp]; split <;> simp [newVarV, noU]
  | buildSlice t n ps =>
    simp only [semOp, keysOp]
    split
    · split
      · split
        · simp [bslV]
        · simp [noU]
      · simp [noU]
    · simp [noU]
  | makeMap t r => cases r with
    | none => simp only [semOp, keysOp]; split <;> simp [noU]
    | some r => simp [semOp, noU]
  | makeSlice t l c =>
    simp only [semOp, keysOp]
    split
    · split
      · unfold aMake; split <;> simp
      · simp [noU]
    · simp [noU]
  | store t p x =>
    simp only [semOp]
    split
    · intro k hk
      have := ups_keys_store k (by simpa [liftU] using hk)
      simp [keysOp, Op.operands, this]
    · simp [noU]
  | mapUpdate t m k x =>
    simp only [semOp]
    split
    · intro k hk
      have := ups_keys_map k (by simpa [liftU] using hk)
      simp [keysOp, Op.operands, this]
    · simp [noU]
  | insert t m k x =>
    simp only [semOp]
    split
    · intro k hk
      have := ups_keys_map k (by simpa [liftU] using hk)
      simp [keysOp, Op.operands, this]
    · simp [noU]
  | call c =>
    obtain ⟨ce, args, tys⟩ := c
    cases ce with
    | builtin b =>
      simp only [semOp]
      intro k hk
      have := semBuiltin_keys k hk
      simp only [List.flatMap_map, Function.comp_def, keysAV_sof] at this
      simpa [keysOp, Op.operands, Call.operands, List.flatMap_map, Function.comp] using this
    | value f => simp [semOp, noU]
    | invoke r m => simp [semOp, noU]
  | _ => first | (simp [opQuiet] at hq; done) | (simp [semOp, noU]; done)

end Go.Dm
