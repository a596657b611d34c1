/-
  Each operation of a region, on the abstract machine; the model does the same.
  Conditions: none.
-/
import Derived.Test.YtbhlfbkheijojaaEng13b
namespace Go.Dm

def lift (r : PV AV) : PV (AV × Ups) := ⟨r.dom, (r.val, [])⟩
def liftU (r : PV Ups) : PV (AV × Ups) := ⟨r.dom, (.tup [], r.val)⟩
def noU : PV (AV × Ups) := ⟨False, (.any, [])⟩

/-- the kind of a map's keys -/
def kindOf (P : Program) (t : TypeId) : Option Nat :=
  match P.underlying t with
  | some (.int .i64) => some 0
  | some .string => some 1
  | some (.struct fs) =>
    match fs.toList with
    | [f1, f2] => if !P.stoodInHeld t && f1.name != "_" && f2.name != "_" && f1.offset == 0 && f2.offset == 1 then
        (match P.underlying f1.type, P.underlying f2.type with | some (.int .i64), some (.int .i64) => some 2 | _, _ => none) else none
    | _ => none
  | _ => none

theorem kindOf_ok {P : Program} {t : TypeId} {kd : Nat} (h : kindOf P t = some kd) : KeyTy P t kd := by
  unfold kindOf at h
  split at h
  · rename_i hu; cases h; exact keyTy_int hu
  · rename_i hu; cases h; exact keyTy_str hu
  · rename_i fs hu
    split at h
    · rename_i f1 f2 hfs
      obtain ⟨fs⟩ := fs
      simp only at hfs
      subst hfs
      split at h
      · rename_i hc
        simp only [Bool.and_eq_true, Bool.not_eq_true', bne_iff_ne, ne_eq, beq_iff_eq] at hc
        obtain ⟨⟨⟨⟨c1, c2⟩, c3⟩, c4⟩, c5⟩ := hc
        split at h
        · rename_i g1 g2
          cases h
          exact keyTy_pair hu c1 c2 c3 c4 c5 g1 g2
        · cases h
      · cases h
    · cases h
  · cases h

/-- a struct of whole numbers, one cell each -/
def flatF (P : Program) : List Field → Nat → Bool
  | [], _ => true
  | f :: r, i => f.name != "_" && f.offset == i && (match P.underlying f.type with | some (.int _) => true | _ => false) && flatF P r (i + 1)
def flatS (P : Program) (t : TypeId) : Bool :=
  match P.underlying t with
  | some (.struct fs) => flatF P fs.toList 0 && !P.stoodInHeld t && !P.eqGuardType P.depth t && decide (fs.size < 9000)
  | _ => false
/-- cells of whole numbers beside each other -/
def eqInts : List AV → List AV → PV Bool
  | [], [] => ⟨True, true⟩
  | .t (.int k a) :: xs, .t (.int k' b) :: ys => ⟨k = k' ∧ (eqInts xs ys).dom, a == b && (eqInts xs ys).val⟩
  | _, _ => ⟨False, false⟩
def aEqS (op : BinOp) (x y : AV) : PV AV :=
  match op, x, y with
  | .eql, .agg xs, .agg ys => ⟨(eqInts xs ys).dom, bv (eqInts xs ys).val⟩
  | .neq, .agg xs, .agg ys => ⟨(eqInts xs ys).dom, bv (!(eqInts xs ys).val)⟩
  | _, _, _ => noV

theorem eqFields_ints {P : Program} {ρ : Inj} {F : Fz} {w : World} {xs ys : Array Value} {d : Nat} : ∀ (fs : List Field) (i : Nat) (as bs : List AV), flatF P fs i = true → as.length = fs.length →
    (∀ j a, as[j]? = some a → ∃ v, xs[i + j]? = some v ∧ AR ρ F w v a) → (∀ j a, bs[j]? = some a → ∃ v, ys[i + j]? = some v ∧ AR ρ F w v a) → (eqInts as bs).dom →
    (Op.eqFields (d + 1) xs ys fs).run P w = .ok (eqInts as bs).val w
  | [], i, as, bs, _, hl, _, _, hd => by
    have : as = [] := List.eq_nil_of_length_eq_zero (by simpa using hl)
    subst this
    cases bs with
    | nil => simp [Op.eqFields, eqInts]
    | cons b bs => exact hd.elim
  | f :: fs, i, as, bs, hf, hl, ha, hb, hd => by
    simp only [flatF, Bool.and_eq_true, bne_iff_ne, ne_eq, beq_iff_eq] at hf
    obtain ⟨⟨⟨h1, h2⟩, h3⟩, h4⟩ := hf
    cases as with
    | nil => simp at hl
    | cons a as =>
      cases bs with
      | nil => cases a <;> first | exact hd.elim | (rename_i x; cases x <;> exact hd.elim)
      | cons b bs =>
        unfold eqInts at hd
        split at hd
        · rename_i e; cases e
        · rename_i k n as' k' m bs' e1 e2
          simp only [List.cons.injEq] at e1 e2
          obtain ⟨rfl, rfl⟩ := e1
          obtain ⟨rfl, rfl⟩ := e2
          obtain ⟨rfl, hd⟩ := hd
          obtain ⟨v, hv, hvr⟩ := ha 0 _ rfl
          obtain ⟨u, hu, hur⟩ := hb 0 _ rfl
          cases hvr with | t hvr => cases hur with | t hur =>
          cases hvr; cases hur
          split at h3
          · rename_i kk hk
            have hag : ∀ w, (isAgg f.type).run P w = .ok false w := fun w => by simp [isAgg, run_underlying hk]
            have p1 : ∀ w, (part f.type xs f.offset).run P w = .ok (.int k n) w := fun w => by
              unfold part; rw [h2]; simp at hv; simp [hag, hv]
            have p2 : ∀ w, (part f.type ys f.offset).run P w = .ok (.int k m) w := fun w => by
              unfold part; rw [h2]; simp at hu; simp [hag, hu]
            have ih := eqFields_ints (P := P) (ρ := ρ) (F := F) (w := w) (xs := xs) (ys := ys) (d := d) fs (i + 1) as bs h4 (by simpa using hl)
              (fun j a h => by rw [Nat.add_assoc, Nat.add_comm 1 j]; exact ha (j + 1) a h) (fun j a h => by rw [Nat.add_assoc, Nat.add_comm 1 j]; exact hb (j + 1) a h) hd
            have e := run_equalIn_int (P := P) w d f.type k kk n m hk
            simp only [Op.eqFields, h1, ne_eq, not_false_eq_true, if_true, Sem.run_bind, p1, p2, Result.andThen_ok, e]
            cases hnm : (n == m) with
            | false => simp [eqInts, hnm]
            | true => simp [eqInts, hnm, ih]
          · cases h3
        · exact hd.elim

theorem eqInts_len : ∀ (xs ys : List AV), (eqInts xs ys).dom → xs.length = ys.length
  | [], [], _ => rfl
  | [], _ :: _, h => by simp [eqInts] at h
  | a :: xs, [], h => by unfold eqInts at h; split at h <;> first | exact h.elim | (rename_i e1 e2; cases e1; done) | (rename_i e1 e2; cases e2; done)
  | a :: xs, b :: ys, h => by
    unfold eqInts at h
    split at h
    · rename_i e; cases e
    · rename_i e1 e2
      simp only [List.cons.injEq] at e1 e2
      obtain ⟨rfl, rfl⟩ := e1
      obtain ⟨rfl, rfl⟩ := e2
      simp [eqInts_len _ _ h.2]
    · exact h.elim

theorem eqS_sound {P : Program} {w : World} {ρ : Inj} {F : Fz} {op : BinOp} {t : TypeId} {ox oy : Operand} {x y : AV} {V1 V2 : Value} (ht : flatS P t = true) (h1 : AR ρ F w V1 x) (h2 : AR ρ F w V2 y)
    (hsz : ∀ xs, x = .agg xs → xs.length = (P.fieldsOf t).size) (hd : (aEqS op x y).dom) :
    ∃ v, (do eqGuard op t ox oy V1 V2; binOp op t V1 V2 : Sem Value).run P w = .ok v w ∧ AR ρ F w v (aEqS op x y).val := by
  unfold flatS at ht
  split at ht
  · rename_i fs hu
    simp only [Bool.and_eq_true, Bool.not_eq_true', decide_eq_true_eq] at ht
    obtain ⟨⟨⟨f1, f2⟩, f3⟩, f4⟩ := ht
    have fo : P.fieldsOf t = fs := by simp [Program.fieldsOf, hu]
    have key : ∀ xs ys, x = .agg xs → y = .agg ys → (eqInts xs ys).dom → ∃ a b, V1 = .agg a ∧ V2 = .agg b ∧ (Op.equalIn 10000 t (.agg a) (.agg b)).run P w = .ok (eqInts xs ys).val w := fun xs ys e1 e2 hdd => by
      have hs := hsz xs e1
      subst e1; subst e2
      cases h1 with | agg s1 h1 => cases h2 with | agg s2 h2 =>
      rename_i a b
      refine ⟨a, b, rfl, rfl, ?_⟩
      have hl := eqInts_len _ _ hdd
      rw [show Op.equalIn 10000 t (.agg a) (.agg b) = Op.equalIn (9999 + 1) t (.agg a) (.agg b) from rfl, run_equalIn_struct w 9999 t _ _ (by rw [fo]; exact hu) f2, fo]
      rw [fo] at hs
      refine eqFields_ints (ρ := ρ) (F := F) (d := 9998) fs.toList 0 xs ys f1 (by simpa using hs) (fun j z hz => ?_) (fun j z hz => ?_) hdd
      · have := lt_of_get hz
        have hj : j < a.size := by omega
        exact ⟨a[j], by simp, h1 j _ _ (by simp) hz⟩
      · have := lt_of_get hz
        have hj : j < b.size := by omega
        exact ⟨b[j], by simp, h2 j _ _ (by simp) hz⟩
    unfold aEqS at hd ⊢
    split at hd
    · rename_i xs ys
      obtain ⟨a, b, rfl, rfl, hr⟩ := key xs ys rfl rfl hd
      refine ⟨_, ?_, .t (.bool _)⟩
      simp only [Sem.run_bind, run_eqGuard_agg w _ t ox oy a b f3, Result.andThen_ok, run_eql_struct, hr]
    · rename_i xs ys
      obtain ⟨a, b, rfl, rfl, hr⟩ := key xs ys rfl rfl hd
      refine ⟨_, ?_, .t (.bool _)⟩
      simp only [Sem.run_bind, run_eqGuard_agg w _ t ox oy a b f3, Result.andThen_ok, run_neq_struct, hr]
    · exact hd.elim
  · cases ht

/-- an element type's cells, bytes and zero, where all is plain -/
def elemOf (P : Program) (e : TypeId) : Option (Nat × Nat × List AV) :=
  match P.info? e with
  | some inf =>
    match inf.zero with
    | some z => if z.cells.size = inf.size ∧ 0 < inf.bytes then some (inf.size, inf.bytes, z.cells.toList.map absC) else none
    | none => none
  | none => none

theorem elemOf_ok {P : Program} {e : TypeId} {sz by_ : Nat} {zs : List AV} (h : elemOf P e = some (sz, by_, zs)) :
    ∃ inf z, P.info? e = some inf ∧ inf.zero = some z ∧ z.cells.size = inf.size ∧ 0 < inf.bytes ∧ inf.size = sz ∧ inf.bytes = by_ ∧ zs = z.cells.toList.map absC := by
  unfold elemOf at h
  split at h
  · rename_i inf hi
    split at h
    · rename_i z hz
      split at h
      · rename_i hc
        simp only [Option.some.injEq, Prod.mk.injEq] at h
        exact ⟨inf, z, hi, hz, hc.1, hc.2, h.1, h.2.1, h.2.2.symm⟩
      · cases h
    · cases h
  · cases h

/-- the map types -/
def mapTy (P : Program) (t : TypeId) : Option (Nat × Option AV) :=
  match P.underlying t with
  | some (.map k e) =>
    match kindOf P k with
    | some kd => some (kd, ((P.info? e).bind (·.zero)).map absV)
    | none => none
  | _ => none

/-- what a map's values are -/
def elTy (P : Program) (t : TypeId) : Bool × Nat × TypeId :=
  match P.underlying t with
  | some (.map _ e) => match tyOf P e with | some (ag, n) => (ag, n, e) | none => (false, 1, e)
  | _ => (false, 1, t)

/-- nil told as an empty slice -/
def sof : AV → AV
  | .nils => .tsl []
  | x => x
theorem AR.sof {ρ : Inj} {F : Fz} {w : World} {v : Value} {a : AV} (h : AR ρ F w v a) : AR ρ F w v (sof a) := by
  cases h with
  | nils => exact .tsl (.nil _ _)
  | t h => exact .t h
  | tsl h => exact .tsl h
  | any v => exact .any v
  | bq b hp hq => exact .bq b hp hq
  | ptr h => exact .ptr h
  | ptrDead a h => exact .ptrDead a h
  | eptr vals hb hv ht => exact .eptr vals hb hv ht
  | own h hl => exact .own h hl
  | ownVirt a h => exact .ownVirt a h
  | ownZero a h hl hz => exact .ownZero a h hl hz
  | ownDead a l c h hn => exact .ownDead a l c h hn
  | mapr h => exact .mapr h
  | maprDead a h => exact .maprDead a h
  | agg hs h => exact .agg hs h
  | tup hs h => exact .tup hs h
  | fn a b c d => exact .fn a b c d
  | it h => exact .it h
  | itDead a h => exact .itDead a h

def semBuiltin (P : Program) (d : Nat) (b : Builtin) (ts : List TypeId) (args : List AV) (σ : Heap) : PV (AV × Ups) :=
  match b, ts, args with
  | .len, [t], [x] =>
    match P.underlying t with
    | some (.slice _) => lift (aLen x σ)
    | some .string => lift (aLenS x)
    | some (.map _ _) => lift (aLenM x σ)
    | _ => noU
  | .append, [t, u], [x, s] =>
    match P.underlying t, P.underlying u with
    | some (.slice e), some (.slice _) =>
      match elemOf P e with
      | some (sz, by_, _) =>
        match x with
        | .tsl es => appNew d sz by_ (.tsl es) s σ
        | .own k off len true => appNew d sz by_ (.own k off len true) s σ
        | .own k off len false => appEnd d sz by_ k off len s σ
        | _ => noU
      | none => noU
    | _, _ => noU
  | .max, [_, _], [x, y] => lift (aMM true x y)
  | .min, [_, _], [x, y] => lift (aMM false x y)
  | .clear, [t], [x] =>
    match P.underlying t with
    | some (.slice e) => match elemOf P e with | some (_, _, zs) => liftU (aClear zs x σ) | none => noU
    | _ => noU
  | _, _, _ => noU

/-- what a comparison with nil tells: a slice that is nil is empty -/
def isEm : AV → Bool
  | .t (.rows es) => es.isEmpty
  | .tsl es => es.isEmpty
  | .own _ _ len _ => len == 0
  | _ => true
def isNils : AV → Bool
  | .nils => true
  | _ => false
def nilRes (op : BinOp) (x : AV) : AV := match op with | .eql => .bq (isEm x) (!isNils x) | _ => .bq (!isNils x) (isEm x)

/-- is it a slice beside the literal nil? -/
def nilCmp (P : Program) (op : BinOp) (t : TypeId) (y : Operand) (x : AV) : Bool :=
  match op, y, P.underlying t, x with
  | .eql, .const (.slice none 0 0), some (.slice _), .t (.rows _) => true
  | .eql, .const (.slice none 0 0), some (.slice _), .tsl _ => true
  | .eql, .const (.slice none 0 0), some (.slice _), .nils => true
  | .eql, .const (.slice none 0 0), some (.slice _), .own _ _ _ _ => true
  | .neq, .const (.slice none 0 0), some (.slice _), .t (.rows _) => true
  | .neq, .const (.slice none 0 0), some (.slice _), .tsl _ => true
  | .neq, .const (.slice none 0 0), some (.slice _), .nils => true
  | .neq, .const (.slice none 0 0), some (.slice _), .own _ _ _ _ => true
  | _, _, _, _ => false

def isStr (P : Program) (t : TypeId) (x : AV) : Bool := match x with | .agg xs => flatS P t && xs.length == (P.fieldsOf t).size | _ => false
/-- a part of an array, of a struct -/
def aArrIdx (n : Nat) (x i : AV) : PV AV :=
  match x, i with
  | .agg xs, .t (.int _ j) => ⟨0 ≤ j ∧ j < n ∧ j < xs.length, xs.getD j.toNat .any⟩
  | _, _ => noV
def aField (ag : Bool) (o n : Nat) (x : AV) : PV AV :=
  match x with
  | .agg xs => cellsV xs ag o n
  | _ => noV

/-- an operation -/
def semOp (P : Program) (d : Nat) (ev : Operand → AV) (o : Op) (σ : Heap) : PV (AV × Ups) :=
  match o with
  | .move x => ⟨True, (ev x, [])⟩
  | .assign x => ⟨True, (ev x, [])⟩
  | .pick c a b => lift (aPick (ev c) (ev a) (ev b))
  | .alloc t => match zeroOf P t with | some zs => newVarV d zs σ | none => noU
  | .box _ x => match avCells (ev x) with | some cs => newVarV d cs σ | none => noU
  | .build t parts => match buildV P t (parts.toList.map fun p => (p.1, ev p.2)) with | some cs => ⟨True, (.agg cs, [])⟩ | none => noU
  | .buildSlice t len parts =>
    match P.underlying t with
    | some (.slice e) =>
      match elemOf P e with
      | some (sz, _, _) => if parts.toList.map (·.1) = List.range len ∧ len * sz ≤ 16777216 then bslV d sz (parts.toList.map fun p => ev p.2) σ else noU
      | none => noU
    | _ => noU
  | .load t p => match tyOf P t with | some (ag, n) => lift (aLoadK ag (kindsOf P t n) (ev p) σ) | none => noU
  | .store t p x => match (P.info? t).map (·.size) with | some n => liftU (aStore n (ev p) (ev x) σ) | none => noU
  | .nilCheck x => lift (aNil (ev x))
  | .binOp op t x y _ => if nilCmp P op t y (ev x) then ⟨True, (nilRes op (ev x), [])⟩ else if isStr P t (ev x) then lift (aEqS op (ev x) (ev y)) else lift (aBin (P.underlying t) op (ev x) (ev y))
  | .unOp op _ x => lift (aUn op (ev x))
  | .convert src dst x =>
    match P.underlying src, P.underlying dst with
    | some _, some (.int k) => lift (aConvI k (ev x))
    | _, _ => noU
  | .makeFunc (.func f) first captured => ⟨True, (.fn f (first.toList.map ev) (captured.toList.map ev), [])⟩
  | .makeMap t none => match mapTy P t with | some (kd, _) => ⟨σ d = none, (.mapr d, [(d, .mapl kd [] 0)])⟩ | none => noU
  | .makeSlice t l c =>
    match P.underlying t with
    | some (.slice e) => match elemOf P e with | some (_, by_, zs) => aMake d zs by_ (ev l) (ev c) σ | none => noU
    | _ => noU
  | .slice t x lo hi mx =>
    match P.underlying t with
    | some (.slice e) => match P.info? e with | some inf => lift (aSl inf.size (sof (ev x)) (lo.map ev) (hi.map ev) (mx.map ev) σ) | none => noU
    | some .string => lift (aSliceS (ev x) (lo.map ev) (hi.map ev) (mx.map ev))
    | _ => noU
  | .fieldAddr s x f =>
    match P.underlying s with
    | some (.struct fs) =>
      match fs[f]? with
      | some fd => match (P.info? fd.type).map (·.size) with | some (_ + 1) => lift (aFieldAddr fd.offset (ev x)) | _ => noU
      | none => noU
    | _ => noU
  | .indexAddr t x i =>
    match P.underlying t with
    | some (.slice e) => match (P.info? e).map (·.size) with | some sz => lift (aIdx none sz (ev x) (ev i) σ) | none => noU
    | some (.array m e) => match (P.info? e).map (·.size) with | some sz => lift (aIdx (some m) sz (ev x) (ev i) σ) | none => noU
    | _ => noU
  | .index t x i => match P.underlying t with | some .string => lift (aStrIdx (ev x) (ev i)) | some (.array n e) => (match tyOf P e with | some (false, 1) => lift (aArrIdx n (ev x) (ev i)) | _ => noU) | _ => noU
  | .field t x f => match P.underlying t with | some (.struct fs) => (match fs[f]? with | some fd => (match tyOf P fd.type with | some (ag, n) => lift (aField ag fd.offset n (ev x)) | none => noU) | none => noU) | _ => noU
  | .lookup t m k ok => match mapTy P t with | some (kd, some z) => lift (aLookupK ok kd (elTy P t).1 (kindsOf P (elTy P t).2.2 (elTy P t).2.1) z (ev m) (ev k) σ) | _ => noU
  | .mapUpdate t m k x => match mapTy P t with | some (kd, _) => liftU (aMapUpd kd (ev m) (ev k) (ev x) σ) | none => noU
  | .insert t m k x => match mapTy P t with | some (kd, _) => liftU (aMapUpd kd (ev m) (ev k) (ev x) σ) | none => noU
  | .extract x i => lift (aExtract (ev x) i)
  | .call { callee := .builtin b, args, argTypes } => semBuiltin P d b argTypes.toList (args.toList.map fun x => sof (ev x)) σ
  | _ => noU

/-- how an operation without a call ends -/
def Ends (P : Program) (a : Act) (o : Oper) (w : World) (v : Value) (w' : World) : Prop :=
  (execOp a.eval o).run P w = .ok (.value v) w' ∨ ((execOp a.eval o).run P w = .ok .skip w' ∧ v = undef)

theorem mapTy_ok {P : Program} {t : TypeId} {kd : Nat} {z : Option AV} (h : mapTy P t = some (kd, z)) :
    ∃ k e, P.underlying t = some (.map k e) ∧ KeyTy P k kd ∧ z = ((P.info? e).bind (·.zero)).map absV := by
  unfold mapTy at h
  split at h
  · rename_i k e hu
    split at h
    · rename_i kd' hk
      simp only [Option.some.injEq, Prod.mk.injEq] at h
      obtain ⟨rfl, rfl⟩ := h
      exact ⟨k, e, hu, kindOf_ok hk, rfl⟩
    · cases h
  · cases h

section
variable {P : Program} {ρ : Inj} {F : Fz} {w : World} {σ : Heap} {a : Act} {ts : List AV} (hv : ValsAR ρ F w a.tmps ts) (hh : HR ρ F w σ)
include hv hh

omit hv in
theorem stay {o : Oper} {v : Value} {x : AV} (h : (execOp a.eval o).run P w = .ok (.value v) w) (hr : AR ρ F w v x) :
    ∃ v w' ρ' F', Ends P a o w v w' ∧ AR ρ' F' w' v x ∧ Stp ρ F w ρ' F' w' σ := ⟨v, w, ρ, F, .inl h, hr, Stp.refl hh⟩

omit hv in
/-- a pure step, out of what its instruction does -/
theorem pure1 {o : Oper} {S : Sem Value} {r : PV AV} (he : (execOp a.eval o) = (do pure (.value (← S)))) (h : ∃ v, S.run P w = .ok v w ∧ AR ρ F w v r.val) :
    ∃ v w' ρ' F', Ends P a o w v w' ∧ AR ρ' F' w' v (lift r).val.1 ∧ Stp ρ F w ρ' F' w' (updAll σ (lift r).val.2) := by
  obtain ⟨v, h1, h2⟩ := h
  exact ⟨v, w, ρ, F, .inl (by rw [he]; simp [h1]), h2, Stp.refl hh⟩

omit hv hh in
/-- a step that makes memory -/
theorem mem1 {o : Oper} {S : Sem Value} {x : AV} {u : Ups} (he : (execOp a.eval o) = (do pure (.value (← S)))) (h : ∃ v w' ρ', S.run P w = .ok v w' ∧ AR ρ' F w' v x ∧ Stp ρ F w ρ' F w' (updAll σ u)) :
    ∃ v w' ρ' F', Ends P a o w v w' ∧ AR ρ' F' w' v x ∧ Stp ρ F w ρ' F' w' (updAll σ u) := by
  obtain ⟨v, w', ρ', h1, h2, h3⟩ := h
  exact ⟨v, w', ρ', F, .inl (by rw [he]; simp [h1]), h2, h3⟩

omit hv hh in
/-- a step that writes -/
theorem wr1 {o : Oper} {S : Sem Unit} {u : Ups} (he : (execOp a.eval o) = (do S; pure .skip)) (h : ∃ w', S.run P w = .ok () w' ∧ Stp ρ F w ρ F w' (updAll σ u)) :
    ∃ v w' ρ' F', Ends P a o w v w' ∧ AR ρ' F' w' v (.tup []) ∧ Stp ρ F w ρ' F' w' (updAll σ u) := by
  obtain ⟨w', h1, h3⟩ := h
  exact ⟨undef, w', ρ, F, .inr ⟨by rw [he]; simp [h1], rfl⟩, .tup rfl (fun i v a h => by simp at h), h3⟩

omit hh in
theorem optEv {lo : Option Operand} : (∀ x, lo.map (evO ts) = some x → ∃ V, lo.map a.eval = some V ∧ AR ρ F w V x) ∧ (lo.map (evO ts) = none → lo.map a.eval = none) := by
  cases lo with
  | none => exact ⟨fun x h => by simp at h, fun _ => rfl⟩
  | some x => exact ⟨fun y h => by simp only [Option.map_some, Option.some.injEq] at h; subst h; exact ⟨_, rfl, AR.evO hv x⟩, fun h => by simp at h⟩

omit hh in
theorem listEv {l : Array Operand} : ValsAR ρ F w (l.map a.eval) (l.toList.map (evO ts)) := by
  refine ⟨by simp, fun i v x h1 h2 => ?_⟩
  simp only [Array.getElem?_map, Option.map_eq_some_iff] at h1
  obtain ⟨y, hy, rfl⟩ := h1
  simp only [List.getElem?_map, Array.getElem?_toList, hy, Option.map_some, Option.some.injEq] at h2
  subst h2
  exact AR.evO hv y

omit hh in
theorem partsEv {l : Array (Nat × Operand)} : ∀ (i : Nat) (x : Nat × Value) (y : Nat × AV), (l.map fun (i, x) => (i, a.eval x))[i]? = some x → (l.toList.map fun p => (p.1, evO ts p.2))[i]? = some y → x.1 = y.1 ∧ AR ρ F w x.2 y.2 := by
  intro i x y h1 h2
  simp only [Array.getElem?_map, Option.map_eq_some_iff] at h1
  obtain ⟨⟨n, z⟩, hy, rfl⟩ := h1
  simp only [List.getElem?_map, Array.getElem?_toList, hy, Option.map_some, Option.some.injEq] at h2
  subst h2
  exact ⟨rfl, AR.evO hv z⟩

theorem sem_builtin {o : Oper} {d : Nat} {b : Builtin} {args : Array Operand} {tys : Array TypeId} (ho : o.op = .call { callee := .builtin b, args := args, argTypes := tys }) (hd : (semBuiltin P d b tys.toList (args.toList.map fun x => sof (evO ts x)) σ).dom) :
    ∃ v w' ρ' F', Ends P a o w v w' ∧ AR ρ' F' w' v (semBuiltin P d b tys.toList (args.toList.map fun x => sof (evO ts x)) σ).val.1 ∧ Stp ρ F w ρ' F' w' (updAll σ (semBuiltin P d b tys.toList (args.toList.map fun x => sof (evO ts x)) σ).val.2) := by
  obtain ⟨args⟩ := args
  obtain ⟨tys⟩ := tys
  unfold semBuiltin at hd ⊢
  split at hd
  · rename_i t x htt hxx
    simp only at htt hxx
    subst htt
    match args, hxx with
    | [ox], hxx =>
      simp only [List.map_cons, List.map_nil, List.cons.injEq, and_true] at hxx
      have hx := (AR.evO hv ox).sof
      rw [hxx] at hx
      have run : ∀ r, (∃ v, (Builtin.len_ #[t] o.type #[a.eval ox]).run P w = .ok v w ∧ AR ρ F w v r) → ∃ v w' ρ' F', Ends P a o w v w' ∧ AR ρ' F' w' v r ∧ Stp ρ F w ρ' F' w' σ := fun r ⟨v, h1, h2⟩ =>
        ⟨v, w, ρ, F, .inl (by simp [execOp, ho, resolve, invoke, builtin, h1]), h2, Stp.refl hh⟩
      split at hd
      · rename_i hu
        exact run _ (aLen_sound hh hu hx hd)
      · rename_i hu
        exact run _ (aLenS_sound hu hx hd)
      · rename_i hu
        exact run _ (aLenM_sound hh hu hx hd)
      · exact hd.elim
  · rename_i t u x s htt hxx
    simp only at htt hxx
    subst htt
    match args, hxx with
    | [ox, os], hxx =>
      simp only [List.map_cons, List.map_nil, List.cons.injEq, and_true] at hxx
      have hx := (AR.evO hv ox).sof
      have hs := (AR.evO hv os).sof
      rw [hxx.1] at hx
      rw [hxx.2] at hs
      have run : ∀ r ups, (∃ v w' ρ', (Builtin.append_ #[t, u] o.type #[a.eval ox, a.eval os]).run P w = .ok v w' ∧ AR ρ' F w' v r ∧ Stp ρ F w ρ' F w' (updAll σ ups)) →
          ∃ v w' ρ' F', Ends P a o w v w' ∧ AR ρ' F' w' v r ∧ Stp ρ F w ρ' F' w' (updAll σ ups) := fun r ups ⟨v, w', ρ', h1, h2, h3⟩ =>
        ⟨v, w', ρ', F, .inl (by simp [execOp, ho, resolve, invoke, builtin, h1]), h2, h3⟩
      split at hd
      · rename_i e e' hu1 hu2
        split at hd
        · rename_i sz by_ zs hel
          obtain ⟨inf, z, g1, g2, g3, g4, rfl, rfl, rfl⟩ := elemOf_ok hel
          split at hd
          · exact run _ _ (appNew_sound hu1 g1 g2 hu2 g3 g4 hh (.inl ⟨_, rfl⟩) hx hs hd)
          · exact run _ _ (appNew_sound hu1 g1 g2 hu2 g3 g4 hh (.inr ⟨_, _, _, rfl⟩) hx hs hd)
          · have hq := appEnd_ok hd
            rw [← hq.2]
            exact run _ _ (appOwn_sound hu1 g1 g2 hu2 g3 g4 hh hx hs hq.1)
          · exact hd.elim
        · exact hd.elim
      · exact hd.elim
  · rename_i t u x y htt hxx
    simp only at htt hxx
    subst htt
    match args, hxx with
    | [ox, oy], hxx =>
      simp only [List.map_cons, List.map_nil, List.cons.injEq, and_true] at hxx
      have hx := (AR.evO hv ox).sof
      have hy := (AR.evO hv oy).sof
      rw [hxx.1] at hx
      rw [hxx.2] at hy
      generalize hX : a.eval ox = X at hx
      generalize hY : a.eval oy = Y at hy
      clear hxx
      unfold aMM at hd ⊢
      simp only [lift] at hd ⊢
      split at hd
      · cases hx with | t hx => cases hy with | t hy =>
        cases hx; cases hy
        exact ⟨_, w, ρ, F, .inl (by simp [execOp, ho, resolve, invoke, builtin, Builtin.max_, Builtin.max2, hX, hY]), .t (.int _ _), Stp.refl hh⟩
      · exact hd.elim
  · rename_i t u x y htt hxx
    simp only at htt hxx
    subst htt
    match args, hxx with
    | [ox, oy], hxx =>
      simp only [List.map_cons, List.map_nil, List.cons.injEq, and_true] at hxx
      have hx := (AR.evO hv ox).sof
      have hy := (AR.evO hv oy).sof
      rw [hxx.1] at hx
      rw [hxx.2] at hy
      generalize hX : a.eval ox = X at hx
      generalize hY : a.eval oy = Y at hy
      clear hxx
      unfold aMM at hd ⊢
      simp only [lift] at hd ⊢
      split at hd
      · cases hx with | t hx => cases hy with | t hy =>
        cases hx; cases hy
        exact ⟨_, w, ρ, F, .inl (by simp [execOp, ho, resolve, invoke, builtin, Builtin.min_, Builtin.min2, hX, hY]), .t (.int _ _), Stp.refl hh⟩
      · exact hd.elim
  · rename_i t x htt hxx
    simp only at htt hxx
    subst htt
    match args, hxx with
    | [ox], hxx =>
      simp only [List.map_cons, List.map_nil, List.cons.injEq, and_true] at hxx
      have hx := (AR.evO hv ox).sof
      rw [hxx] at hx
      split at hd
      · rename_i e hu
        split at hd
        · rename_i sz by_ zs hel
          obtain ⟨inf, z, g1, g2, g3, g4, rfl, rfl, rfl⟩ := elemOf_ok hel
          obtain ⟨w', h1, h2⟩ := clear_sound (P := P) (ty := o.type) hh hu g1 g2 g3 hx hd
          exact ⟨.tuple #[], w', ρ, F, .inl (by simp [execOp, ho, resolve, invoke, builtin, h1]), .tup rfl (fun i v a h => by simp at h), h2⟩
        · exact hd.elim
      · exact hd.elim
  · exact hd.elim

end

end Go.Dm
