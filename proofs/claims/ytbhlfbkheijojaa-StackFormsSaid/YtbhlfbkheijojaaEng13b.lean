/-
  What is read has its type's form: so that what follows can be worked out of data that are not known.
  Conditions: none.
-/
import Derived.Test.YtbhlfbkheijojaaEng13
namespace Go.Dm

inductive Kd where
  | int (k : IntKind) | bool | str | slc | raw

def toT : AV → Tree
  | .t x => x
  | _ => .nilp
def toI : Tree → Int
  | .int _ n => n
  | _ => 0
def toB : Tree → Bool
  | .bool b => b
  | _ => false
def toS : Tree → ByteArray
  | .str s => s
  | _ => ByteArray.empty
def toR : Tree → List (List Tree)
  | .rows es => es
  | _ => []
def isI (k : IntKind) : AV → Prop
  | .t (.int k' _) => k' = k
  | _ => False
def isB : AV → Prop
  | .t (.bool _) => True
  | _ => False
def isS : AV → Prop
  | .t (.str _) => True
  | _ => False
def isR : AV → Prop
  | .t (.rows _) => True
  | _ => False
def isAg : AV → Prop
  | .agg _ => True
  | _ => False
def aggL : AV → List AV
  | .agg l => l
  | _ => []

def cst (k : Kd) (a : AV) : PV AV :=
  match k with
  | .int kk => ⟨isI kk a, .t (.int kk (toI (toT a)))⟩
  | .bool => ⟨isB a, .t (.bool (toB (toT a)))⟩
  | .str => ⟨isS a, .t (.str (toS (toT a)))⟩
  | .slc =>
    match a with
    | .own k o l t => ⟨True, .own k o l t⟩
    | .tsl es => ⟨True, .tsl es⟩
    | .nils => ⟨True, .nils⟩
    | a => ⟨isR a, .t (.rows (toR (toT a)))⟩
  | .raw => ⟨True, a⟩

theorem cst_ok {k : Kd} {a : AV} (h : (cst k a).dom) : (cst k a).val = a := by
  unfold cst at h ⊢
  cases k with
  | int kk =>
    simp only at h ⊢
    cases a with
    | t x => cases x <;> simp_all [isI, toT, toI]
    | _ => exact h.elim
  | bool =>
    simp only at h ⊢
    cases a with
    | t x => cases x <;> simp_all [isB, toT, toB]
    | _ => exact h.elim
  | str =>
    simp only at h ⊢
    cases a with
    | t x => cases x <;> simp_all [isS, toT, toS]
    | _ => exact h.elim
  | slc =>
    simp only at h ⊢
    cases a with
    | t x => cases x <;> simp_all [isR, toT, toR]
    | own k o l t => rfl
    | tsl es => rfl
    | nils => rfl
    | _ => exact h.elim
  | raw => rfl

def castDom (g : Nat → AV) : Nat → List Kd → Prop
  | _, [] => True
  | o, k :: ks => (cst k (g o)).dom ∧ castDom g (o + 1) ks
def castVal (g : Nat → AV) : Nat → List Kd → List AV
  | _, [] => []
  | o, k :: ks => (cst k (g o)).val :: castVal g (o + 1) ks

theorem castVal_ok {x : List AV} {g : Nat → AV} (hg : ∀ j, j < x.length → g j = x.getD j .any) : ∀ (ks : List Kd) (o : Nat), o + ks.length ≤ x.length → castDom g o ks → castVal g o ks = (x.drop o).take ks.length
  | [], o, _, _ => by simp [castVal]
  | k :: ks, o, h, hd => by
    simp only [List.length_cons] at h
    have ho : o < x.length := by omega
    rw [castVal, castVal_ok hg ks (o + 1) (by omega) hd.2, cst_ok hd.1, hg o ho]
    have e : x.getD o .any = x[o] := by simp [List.getD, ho]
    rw [e, List.drop_eq_getElem_cons ho, List.length_cons, List.take_succ_cons]

def loadK (ag : Bool) (ks : List Kd) (len : Nat) (g : Nat → AV) (o : Nat) : PV AV :=
  match ag, ks with
  | true, ks => ⟨o + ks.length ≤ len ∧ castDom g o ks, .agg (castVal g o ks)⟩
  | false, [k] => ⟨o < len ∧ (cst k (g o)).dom, (cst k (g o)).val⟩
  | _, _ => noV

theorem loadK_ok {ag : Bool} {ks : List Kd} {x : List AV} {g : Nat → AV} {o : Nat} (hg : ∀ j, j < x.length → g j = x.getD j .any) (h : (loadK ag ks x.length g o).dom) :
    (cellsV x ag o ks.length).dom ∧ (cellsV x ag o ks.length).val = (loadK ag ks x.length g o).val := by
  cases ag with
  | true => exact ⟨h.1, by simp only [cellsV, if_true, loadK]; rw [castVal_ok hg ks o h.1 h.2]⟩
  | false =>
    match ks, h with
    | [k], h => exact ⟨h.1, by simp only [cellsV, loadK, Bool.false_eq_true, if_false]; rw [cst_ok h.2, hg o h.1]⟩

def aLoadK (ag : Bool) (ks : List Kd) (p : AV) (σ : Heap) : PV AV :=
  match p with
  | .ptr k e o =>
    match σ k with
    | some (.row _ _ es) => ⟨e < es.length ∧ (loadK ag ks (es.getD e []).length (fun j => (es.getD e []).getD j .any) o).dom, (loadK ag ks (es.getD e []).length (fun j => (es.getD e []).getD j .any) o).val⟩
    | _ => noV
  | .eptr cs o => loadK ag ks cs.length (fun j => .t (cs.getD j .nilp)) o
  | _ => noV

theorem aLoadK_ok {ag : Bool} {ks : List Kd} {p : AV} {σ : Heap} (h : (aLoadK ag ks p σ).dom) : (aLoad ag ks.length p σ).dom ∧ (aLoad ag ks.length p σ).val = (aLoadK ag ks p σ).val := by
  unfold aLoadK at h ⊢
  unfold aLoad
  split at h
  · split at h
    · rename_i tag z es hk
      simp only [hk]
      have := loadK_ok (fun j _ => rfl) h.2
      exact ⟨⟨h.1, this.1⟩, this.2⟩
    · exact h.elim
  · rename_i cs o
    simp only
    have hl : (cs.map AV.t).length = cs.length := by simp
    rw [← hl] at h ⊢
    exact loadK_ok (fun j hj => by
      have hj' : j < cs.length := by simpa using hj
      simp [List.getD, hj']) h
  · exact h.elim

def coerce (ag : Bool) (ks : List Kd) (a : AV) : PV AV :=
  match ag, ks with
  | true, ks => ⟨isAg a ∧ ks.length = (aggL a).length ∧ castDom (fun j => (aggL a).getD j .any) 0 ks, .agg (castVal (fun j => (aggL a).getD j .any) 0 ks)⟩
  | false, [k] => cst k a
  | _, _ => noV

theorem coerce_ok {ag : Bool} {ks : List Kd} {a : AV} (h : (coerce ag ks a).dom) : (coerce ag ks a).val = a := by
  cases ag with
  | true =>
    obtain ⟨h1, h2, h3⟩ := h
    cases a with
    | agg l =>
      simp only [aggL] at h2 h3
      simp only [coerce, aggL]
      rw [castVal_ok (x := l) (fun j _ => rfl) ks 0 (by omega) h3]
      simp [h2]
    | _ => exact h1.elim
  | false =>
    match ks, h with
    | [k], h => exact cst_ok h

def aLookupK (ok : Bool) (kd : Nat) (ag : Bool) (ks : List Kd) (zero : AV) (m k : AV) (σ : Heap) : PV AV :=
  match keyOf k with
  | some key =>
    match m with
    | .t .nilmap => ⟨key.kd = kd, lkRes ok zero false⟩
    | .t (.map kd' f) => ⟨(key.kd = kd ∧ kd' = kd) ∧ (coerce ag ks (((f key).map AV.t).getD zero)).dom, lkRes ok (coerce ag ks (((f key).map AV.t).getD zero)).val (f key).isSome⟩
    | .mapr r =>
      match σ r with
      | some (.map kd' f) => ⟨(key.kd = kd ∧ kd' = kd) ∧ (coerce ag ks ((f key).getD zero)).dom, lkRes ok (coerce ag ks ((f key).getD zero)).val (f key).isSome⟩
      | some (.mapl kd' es _) => ⟨(key.kd = kd ∧ kd' = kd) ∧ (coerce ag ks ((mget key es).getD zero)).dom, lkRes ok (coerce ag ks ((mget key es).getD zero)).val (mget key es).isSome⟩
      | _ => noV
    | _ => noV
  | none => noV

theorem aLookupK_ok {ok : Bool} {kd : Nat} {ag : Bool} {ks : List Kd} {zero m k : AV} {σ : Heap} (h : (aLookupK ok kd ag ks zero m k σ).dom) :
    (aLookup ok kd zero m k σ).dom ∧ (aLookup ok kd zero m k σ).val = (aLookupK ok kd ag ks zero m k σ).val := by
  unfold aLookupK at h ⊢
  unfold aLookup
  cases hkey : keyOf k with
  | none => rw [hkey] at h; exact h.elim
  | some key =>
    rw [hkey] at h
    simp only at h ⊢
    cases m with
    | t x =>
      cases x with
      | nilmap => exact ⟨h, rfl⟩
      | map kd' f =>
        refine ⟨h.1, ?_⟩
        have := coerce_ok h.2
        simp only at this ⊢
        rw [this]
        cases f key <;> rfl
      | _ => exact h.elim
    | mapr r =>
      simp only at h ⊢
      cases hr : σ r with
      | none => rw [hr] at h; exact h.elim
      | some b =>
        rw [hr] at h
        cases b with
        | map kd' f =>
          refine ⟨h.1, ?_⟩
          have := coerce_ok h.2
          simp only at this ⊢
          rw [this]
          cases f key <;> rfl
        | mapl kd' es c =>
          refine ⟨h.1, ?_⟩
          have := coerce_ok h.2
          simp only at this ⊢
          rw [this]
          cases mget key es <;> rfl
        | _ => exact h.elim
    | _ => exact h.elim

/-- append at the end of a row of one's own, which goes on under a new key -/
def appEnd (d sz bytes : Nat) (k off len : Nat) (s : AV) (σ : Heap) : PV (AV × Ups) :=
  match σ k, srcOf s σ with
  | some (.row tag z es), some new =>
    ⟨off + len = es.length ∧ σ d = none ∧ tag ≠ .var ∧ z = sz ∧ srcOk sz s σ ∧ flatAll new ∧ (len + new.length) * bytes ≤ 140737488355328,
      (.own d 0 (len + new.length) false, [(k, .dead), (d, .row tag sz (es.drop off ++ new))])⟩
  | _, _ => ⟨False, (.any, [])⟩

theorem appEnd_ok {d sz bytes k off len : Nat} {s : AV} {σ : Heap} (h : (appEnd d sz bytes k off len s σ).dom) :
    (appOwn d sz bytes k off len s σ).dom ∧ (appOwn d sz bytes k off len s σ).val = (appEnd d sz bytes k off len s σ).val := by
  unfold appEnd at h ⊢
  unfold appOwn
  split at h
  · rename_i tag z es new h1 h2
    have h3 := h.2
    simp only [h1, h2]
    rw [if_pos h.1]
    exact ⟨h3, rfl⟩
  · exact h.elim

/-- x[i:j:j] -/
def aSl (sz : Nat) (x : AV) (lo hi mx : Option AV) (σ : Heap) : PV AV :=
  match mx with
  | none => aSlice' sz x lo hi none σ
  | some m =>
    ⟨(aSlice' sz x lo hi (some m) σ).dom ∧ optI 0 hi = optI 0 (some m),
      match x with
      | .own k off _ _ => .own k (off + ((optI 0 lo).getD 0).toNat) (((optI 0 hi).getD 0).toNat - ((optI 0 lo).getD 0).toNat) true
      | .tsl es => .tsl ((es.drop ((optI 0 lo).getD 0).toNat).take (((optI 0 hi).getD 0).toNat - ((optI 0 lo).getD 0).toNat))
      | x => .tsl (((toR (toT x)).drop ((optI 0 lo).getD 0).toNat).take (((optI 0 hi).getD 0).toNat - ((optI 0 lo).getD 0).toNat))⟩

theorem aSl_ok {sz : Nat} {x : AV} {lo hi mx : Option AV} {σ : Heap} (h : (aSl sz x lo hi mx σ).dom) : (aSlice' sz x lo hi mx σ).dom ∧ (aSlice' sz x lo hi mx σ).val = (aSl sz x lo hi mx σ).val := by
  unfold aSl at h ⊢
  cases mx with
  | none => exact ⟨h, rfl⟩
  | some m =>
    obtain ⟨h1, h2⟩ := h
    refine ⟨h1, ?_⟩
    have rowsCase : ∀ es : List (List Tree), (match optI 0 lo, optI es.length hi, some m with
        | some l, some h, none => (⟨0 ≤ l ∧ l ≤ h ∧ h ≤ es.length ∧ (l = 0 ∨ szOk sz es), .t (.rows ((es.drop l.toNat).take (h.toNat - l.toNat)))⟩ : PV AV)
        | some l, some h, some (.t (.int _ m)) =>
          ⟨0 ≤ l ∧ l ≤ h ∧ h ≤ m ∧ m ≤ es.length ∧ (l = 0 ∨ szOk sz es) ∧ hi.isSome = true, if h = m then .tsl ((es.drop l.toNat).take (h.toNat - l.toNat)) else .any⟩
        | _, _, _ => noV).dom → (match optI 0 lo, optI es.length hi, some m with
        | some l, some h, none => (⟨0 ≤ l ∧ l ≤ h ∧ h ≤ es.length ∧ (l = 0 ∨ szOk sz es), .t (.rows ((es.drop l.toNat).take (h.toNat - l.toNat)))⟩ : PV AV)
        | some l, some h, some (.t (.int _ m)) =>
          ⟨0 ≤ l ∧ l ≤ h ∧ h ≤ m ∧ m ≤ es.length ∧ (l = 0 ∨ szOk sz es) ∧ hi.isSome = true, if h = m then .tsl ((es.drop l.toNat).take (h.toNat - l.toNat)) else .any⟩
        | _, _, _ => noV).val = .tsl ((es.drop ((optI 0 lo).getD 0).toNat).take (((optI 0 hi).getD 0).toNat - ((optI 0 lo).getD 0).toNat)) := fun es hd => by
      cases e1 : optI 0 lo with
      | none => rw [e1] at hd; exact hd.elim
      | some l =>
        rw [e1] at hd
        cases hi with
        | none =>
          simp only [optI] at hd
          split at hd
          · rename_i heq; cases heq
          · exact absurd hd.2.2.2.2.2 (by simp)
          · exact hd.elim
        | some y =>
          cases e2 : optI es.length (some y) with
          | none => rw [e2] at hd; exact hd.elim
          | some h =>
            rw [e2] at hd
            have e3 : optI 0 (some y) = some h := by
              unfold optI at e2 ⊢
              revert e2; split <;> intro e2 <;> simp_all
            rw [e3] at h2 ⊢
            split at hd
            · rename_i heq; cases heq
            · rename_i l' h' km mm e4 e5 e6
              cases e4; cases e5; cases e6
              have : h = mm := by simpa [optI] using h2
              subst this
              simp
            · exact hd.elim
    unfold aSlice' at h1 ⊢
    cases x with
    | own k off len tg =>
      simp only at h1 ⊢
      cases e0 : σ k with
      | none => rw [e0] at h1; exact h1.elim
      | some b =>
        rw [e0] at h1
        cases b with
        | row tag z es =>
          cases e1 : optI 0 lo with
          | none => rw [e1] at h1; exact h1.elim
          | some l =>
            rw [e1] at h1
            cases hi with
            | none =>
              simp only [optI] at h1
              split at h1
              · rename_i heq; cases heq
              · exact absurd h1.2.2.2.2.2 (by simp)
              · exact h1.elim
            | some y =>
              cases e2 : optI len (some y) with
              | none => rw [e2] at h1; exact h1.elim
              | some h =>
                rw [e2] at h1
                have e3 : optI 0 (some y) = some h := by
                  unfold optI at e2 ⊢
                  revert e2; split <;> intro e2 <;> simp_all
                rw [e3] at h2 ⊢
                split at h1
                · rename_i heq; cases heq
                · rename_i z' es' l' h' km mm e4 e5 e6 e7
                  cases e5; cases e6; cases e7
                  have : h = mm := by simpa [optI] using h2
                  subst this
                  simp
                · exact h1.elim
        | _ => exact h1.elim
    | t y =>
      cases y with
      | rows es => exact rowsCase es h1
      | _ => exact h1.elim
    | tsl es => exact rowsCase es h1
    | _ => exact h1.elim

/-- a type's leaves -/
def leafs (P : Program) : Nat → TypeId → List Kd
  | 0, _ => [.raw]
  | n + 1, t =>
    match P.underlying t with
    | some (.int k) => [.int k]
    | some .bool => [.bool]
    | some .string => [.str]
    | some (.slice _) => [.slc]
    | some (.struct fs) => fs.toList.flatMap fun fd => leafs P n fd.type
    | some (.array m e) => (List.replicate m (leafs P n e)).flatten
    | _ => [.raw]

def kindsOf (P : Program) (t : TypeId) (n : Nat) : List Kd := if (leafs P 4 t).length = n then leafs P 4 t else List.replicate n .raw

theorem kindsOf_len {P : Program} {t : TypeId} {n : Nat} : (kindsOf P t n).length = n := by
  unfold kindsOf
  split
  · assumption
  · simp

end Go.Dm
