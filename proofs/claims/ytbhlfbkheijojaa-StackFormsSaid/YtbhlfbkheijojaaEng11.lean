/-
  Maps: look-up, store, length.
  Conditions: none.
-/
import Derived.Test.YtbhlfbkheijojaaEng10
import Derived.Laws.StructEq
namespace Go.Dm

/-- what a search for a key has found -/
def Found (k : MKey) (es : List MapEntry) (i : Nat) : Option (Nat × Value) → Prop
  | none => ∀ e ∈ es, e.key ≠ k.val
  | some (j, v) => i ≤ j ∧ ∃ e, es[j - i]? = some e ∧ e.key = k.val ∧ e.val = v

/-- a type of keys: its kind -/
structure KeyTy (P : Program) (t : TypeId) (kd : Nat) : Prop where
  check : ∀ (b : Bool) (k : MKey) (w : World), k.kd = kd → (Instr.checkKey b 10000 t k.val).run P w = .ok () w
  find : ∀ (k : MKey) (es : List MapEntry) (w : World), k.kd = kd → (∀ e ∈ es, ∃ k' : MKey, e.key = k'.val ∧ k'.kd = kd) → ∃ r, (Instr.findKey t k.val es).run P w = .ok r w ∧ Found k es 0 r

theorem checkKey_eq (b : Bool) (t : TypeId) (v : Value) : Instr.checkKey b 10000 t v = Instr.checkKey b (9999 + 1) t v := rfl

theorem found_cons {k : MKey} {e : MapEntry} {es : List MapEntry} {i : Nat} {r : Option (Nat × Value)} (h : Found k es (i + 1) r) (hne : e.key ≠ k.val) : Found k (e :: es) i r := by
  cases r with
  | none =>
    intro x hx
    rcases List.mem_cons.1 hx with rfl | hx
    · exact hne
    · exact h x hx
  | some p =>
    obtain ⟨j, v⟩ := p
    obtain ⟨h1, x, h2, h3, h4⟩ := h
    refine ⟨by omega, x, ?_, h3, h4⟩
    have : j - i = (j - (i + 1)) + 1 := by omega
    rw [this, List.getElem?_cons_succ]; exact h2

theorem keyTy_int {P : Program} {t : TypeId} (h : P.underlying t = some (.int .i64)) : KeyTy P t 0 := by
  have fn : ∀ (n : Int) (es : List MapEntry) (i : Nat), (∀ e ∈ es, ∃ k' : MKey, e.key = k'.val ∧ k'.kd = 0) → ∃ r, Instr.findNow (.int .i64) (.int .i64 n) es i = some r ∧ Found (.i n) es i r := by
    intro n es
    induction es with
    | nil => intro i _; exact ⟨none, rfl, fun e he => by cases he⟩
    | cons e es ih =>
      intro i hk
      obtain ⟨k', e1, e2⟩ := hk e (by simp)
      cases k' with
      | i m =>
        by_cases hnm : n = m
        · subst hnm
          refine ⟨some (i, e.val), ?_, Nat.le_refl _, e, by simp, e1, rfl⟩
          simp [Instr.findNow, e1, MKey.val, Instr.sameNow]
        · obtain ⟨r, hr, hf⟩ := ih (i + 1) (fun x hx => hk x (by simp [hx]))
          refine ⟨r, ?_, found_cons hf ?_⟩
          · have : (n == m) = false := by simpa using hnm
            simp [Instr.findNow, e1, MKey.val, Instr.sameNow, this, hr]
          · rw [e1]; simp [MKey.val]; exact fun h => hnm h.symm
      | s b => cases e2
      | p a b => cases e2
  refine ⟨fun b k w hk => ?_, fun k es w hk hes => ?_⟩
  · cases k with
    | i n => rw [checkKey_eq, Instr.checkKey]; simp [run_underlying h, MKey.val]
    | s b => cases hk
    | p a b => cases hk
  · cases k with
    | i n =>
      obtain ⟨r, hr, hf⟩ := fn n es 0 hes
      exact ⟨r, by simp [Instr.findKey, run_underlying h, MKey.val, hr], hf⟩
    | s b => cases hk
    | p a b => cases hk

theorem ba_beq (a b : ByteArray) : (a == b) = decide (a = b) := by
  cases a with | mk a =>
  cases b with | mk b =>
  show (a == b) = _
  rw [Bool.eq_iff_iff]; simp

theorem keyTy_str {P : Program} {t : TypeId} (h : P.underlying t = some .string) : KeyTy P t 1 := by
  have fn : ∀ (n : ByteArray) (es : List MapEntry) (i : Nat), (∀ e ∈ es, ∃ k' : MKey, e.key = k'.val ∧ k'.kd = 1) → ∃ r, Instr.findNow .string (.string n) es i = some r ∧ Found (.s n) es i r := by
    intro n es
    induction es with
    | nil => intro i _; exact ⟨none, rfl, fun e he => by cases he⟩
    | cons e es ih =>
      intro i hk
      obtain ⟨k', e1, e2⟩ := hk e (by simp)
      cases k' with
      | s m =>
        by_cases hnm : n = m
        · subst hnm
          refine ⟨some (i, e.val), ?_, Nat.le_refl _, e, by simp, e1, rfl⟩
          simp [Instr.findNow, e1, MKey.val, Instr.sameNow, ba_beq]
        · obtain ⟨r, hr, hf⟩ := ih (i + 1) (fun x hx => hk x (by simp [hx]))
          refine ⟨r, ?_, found_cons hf ?_⟩
          · simp [Instr.findNow, e1, MKey.val, Instr.sameNow, ba_beq, hnm, hr]
          · rw [e1]; simp [MKey.val]; exact fun h => hnm h.symm
      | i b => cases e2
      | p a b => cases e2
  refine ⟨fun b k w hk => ?_, fun k es w hk hes => ?_⟩
  · cases k with
    | s n => rw [checkKey_eq, Instr.checkKey]; simp [run_underlying h, MKey.val]
    | i b => cases hk
    | p a b => cases hk
  · cases k with
    | s n =>
      obtain ⟨r, hr, hf⟩ := fn n es 0 hes
      exact ⟨r, by simp [Instr.findKey, run_underlying h, MKey.val, hr], hf⟩
    | i b => cases hk
    | p a b => cases hk

theorem keyTy_pair {P : Program} {t : TypeId} {f1 f2 : Field} (h : P.underlying t = some (.struct #[f1, f2])) (hs : P.stoodInHeld t = false) (hn1 : f1.name ≠ "_") (hn2 : f2.name ≠ "_")
    (ho1 : f1.offset = 0) (ho2 : f2.offset = 1) (h1 : P.underlying f1.type = some (.int .i64)) (h2 : P.underlying f2.type = some (.int .i64)) : KeyTy P t 2 := by
  have ag : ∀ {u : TypeId} (w : World), P.underlying u = some (.int .i64) → (isAgg u).run P w = .ok false w := fun {u} w hu => by simp [isAgg, run_underlying hu]
  have hp1 : ∀ (x y : Value) (w : World), (part f1.type #[x, y] f1.offset).run P w = .ok x w := fun x y w => by
    unfold part
    simp [ag w h1, ho1]
  have hp2 : ∀ (x y : Value) (w : World), (part f2.type #[x, y] f2.offset).run P w = .ok y w := fun x y w => by
    unfold part
    simp [ag w h2, ho2]
  have fo : P.fieldsOf t = #[f1, f2] := by simp [Program.fieldsOf, h]
  have eq : ∀ (a b c d : Int) (w : World), (Op.equal t (.agg #[.int .i64 a, .int .i64 b]) (.agg #[.int .i64 c, .int .i64 d])).run P w = .ok (a == c && b == d) w := fun a b c d w => by
    show (Op.equalIn (9999 + 1) t _ _).run P w = _
    rw [run_equalIn_struct w 9999 t _ _ (by rw [fo]; exact h) hs, fo]
    have e1 := fun w => run_equalIn_int (P := P) w 9998 f1.type .i64 .i64 a c h1
    have e2 : ∀ w, (Op.equalIn 9999 f2.type (.int .i64 b) (.int .i64 d)).run P w = .ok (b == d) w := fun w => run_equalIn_int (P := P) w 9998 f2.type .i64 .i64 b d h2
    simp only [Op.eqFields, hn1, hn2, ne_eq, not_false_eq_true, if_true, Sem.run_bind, hp1, Result.andThen_ok, e1]
    cases (a == c) with
    | false => simp
    | true =>
      simp only [hp2, e2, Result.andThen_ok, Bool.not_true, Bool.false_eq_true, if_false, hn2, ne_eq, not_false_eq_true, if_true, Sem.run_bind, Bool.true_and]
      cases (b == d) <;> simp
  have fa : ∀ (a b : Int) (es : List MapEntry) (i : Nat) (w : World), (∀ e ∈ es, ∃ k' : MKey, e.key = k'.val ∧ k'.kd = 2) → ∃ r, (Instr.findAsking t (.agg #[.int .i64 a, .int .i64 b]) es i).run P w = .ok r w ∧ Found (.p a b) es i r := by
    intro a b es
    induction es with
    | nil => intro i w _; exact ⟨none, by simp [Instr.findAsking], fun e he => by cases he⟩
    | cons e es ih =>
      intro i w hk
      obtain ⟨k', e1, e2⟩ := hk e (by simp)
      cases k' with
      | p c d =>
        by_cases hcd : a = c ∧ b = d
        · obtain ⟨rfl, rfl⟩ := hcd
          refine ⟨some (i, e.val), ?_, Nat.le_refl _, e, by simp, e1, rfl⟩
          simp [Instr.findAsking, e1, MKey.val, eq]
        · obtain ⟨r, hr, hf⟩ := ih (i + 1) w (fun x hx => hk x (by simp [hx]))
          have hb : (a == c && b == d) = false := by
            cases hh : (a == c && b == d) with
            | false => rfl
            | true => simp only [Bool.and_eq_true, beq_iff_eq] at hh; exact absurd hh hcd
          refine ⟨r, by simp [Instr.findAsking, e1, MKey.val, eq, hb, hr], found_cons hf ?_⟩
          rw [e1]; simp [MKey.val]; exact fun h1 h2 => hcd ⟨h1.symm, h2.symm⟩
      | i m => cases e2
      | s b => cases e2
  refine ⟨fun b k w hk => ?_, fun k es w hk hes => ?_⟩
  · cases k with
    | p x y =>
      have e1 := fun w => run_underlying (P := P) (w := w) h1
      have e2 := fun w => run_underlying (P := P) (w := w) h2
      rw [checkKey_eq, Instr.checkKey]
      simp only [run_underlying h, MKey.val, Sem.run_bind, Result.andThen_ok]
      rw [← Array.forIn_toList]
      have c1 : ∀ (n : Int) (w : World), (Instr.checkKey b 9999 f1.type (.int .i64 n)).run P w = .ok () w := fun n w => by
        rw [show Instr.checkKey b 9999 f1.type (.int .i64 n) = Instr.checkKey b (9998 + 1) f1.type (.int .i64 n) from rfl, Instr.checkKey]; simp [e1]
      have c2 : ∀ (n : Int) (w : World), (Instr.checkKey b 9999 f2.type (.int .i64 n)).run P w = .ok () w := fun n w => by
        rw [show Instr.checkKey b 9999 f2.type (.int .i64 n) = Instr.checkKey b (9998 + 1) f2.type (.int .i64 n) from rfl, Instr.checkKey]; simp [e2]
      simp [List.forIn_cons, hn1, hn2, hp1, hp2, c1, c2]
    | s b => cases hk
    | i a => cases hk
  · cases k with
    | p a b =>
      obtain ⟨r, hr, hf⟩ := fa a b es 0 w hes
      cases es with
      | nil =>
        refine ⟨none, by simp [Instr.findKey, run_underlying h, MKey.val, Instr.findNow], fun e he => by cases he⟩
      | cons e es =>
        refine ⟨r, ?_, hf⟩
        simp [Instr.findKey, run_underlying h, MKey.val, Instr.findNow, Instr.sameNow, hr]
    | s b => cases hk
    | i a => cases hk

def updM {α : Type} (m : MKey → Option α) (k : MKey) (v : α) : MKey → Option α := fun j => if j = k then some v else m j

theorem MKey.val_inj {k k' : MKey} (h : k.val = k'.val) : k = k' := by
  cases k <;> cases k' <;> simp_all [MKey.val]

theorem MapIs.found {α : Type} {kd : Nat} {es : Array MapEntry} {clock : Nat} {m : MKey → Option α} {vals : MKey → Value} (h : MapIs kd es clock m vals) {k : MKey} {r : Option (Nat × Value)} (hf : Found k es.toList 0 r) :
    (r = none ∧ m k = none) ∨ ∃ j e, r = some (j, vals k) ∧ (m k).isSome ∧ es[j]? = some e ∧ e.key = k.val := by
  cases r with
  | none =>
    refine .inl ⟨rfl, ?_⟩
    cases hm : m k with
    | none => rfl
    | some x =>
      obtain ⟨e, he, h1, h2⟩ := h.has k (by simp [hm])
      exact absurd h1 (hf e he)
  | some p =>
    obtain ⟨j, v⟩ := p
    obtain ⟨_, e, h1, h2, h3⟩ := hf
    simp only [Nat.sub_zero, Array.getElem?_toList] at h1
    have hmem : e ∈ es.toList := by rw [← Array.getElem?_toList] at h1; exact List.mem_of_getElem? h1
    obtain ⟨k', q1, q2, q3⟩ := h.keys e hmem
    have hkk : k' = k := MKey.val_inj (q1.symm.trans h2)
    subst hkk
    obtain ⟨e2, he2, r1, r2⟩ := h.has k' q2
    have : e2 = e := by
      obtain ⟨i1, hi1, h1e⟩ := List.getElem_of_mem he2
      obtain ⟨i2, hi2, h2e⟩ := List.getElem_of_mem hmem
      have hij : i1 = i2 := (List.getElem?_inj (by simpa using hi1) h.once).1 (by
        simp only [List.getElem?_map, List.getElem?_eq_getElem hi1, List.getElem?_eq_getElem hi2, Option.map_some, h1e, h2e, r1, q1])
      subst hij
      rw [← h1e, ← h2e]
    subst this
    exact .inr ⟨j, e2, by rw [← h3, r2], q2, h1, q1⟩

/-- a key -/
def keyOf : AV → Option MKey
  | .t (.int .i64 n) => some (.i n)
  | .t (.str s) => some (.s s)
  | .agg [.t (.int .i64 a), .t (.int .i64 b)] => some (.p a b)
  | _ => none

theorem keyOf_val {ρ : Inj} {F : Fz} {w : World} {X : Value} {x : AV} {k : MKey} (hx : AR ρ F w X x) (h : keyOf x = some k) : X = k.val := by
  unfold keyOf at h
  split at h
  · simp only [Option.some.injEq] at h; subst h; cases hx with | t hx => cases hx; rfl
  · simp only [Option.some.injEq] at h; subst h; cases hx with | t hx => cases hx; rfl
  · rename_i a b
    simp only [Option.some.injEq] at h; subst h
    cases hx with
    | agg hs h =>
      rename_i vs
      simp only [List.length_cons, List.length_nil] at hs
      obtain ⟨l⟩ := vs
      match l, hs with
      | [v1, v2], _ =>
        have h1 := h 0 v1 _ (by simp) rfl
        have h2 := h 1 v2 _ (by simp) rfl
        cases h1 with | t h1 => cases h2 with | t h2 =>
        cases h1; cases h2; rfl
  · cases h

def lkRes (ok : Bool) (v : AV) (b : Bool) : AV := if ok then .tup [v, bv b] else v

abbrev Ents := List (MKey × AV × Nat)
/-- entries in their order: what a key has -/
def mget (k : MKey) : Ents → Option AV
  | [] => none
  | x :: r => if x.1 = k then some x.2.1 else mget k r
def mput (k : MKey) (v : AV) (c : Nat) : Ents → Ents
  | [] => [(k, v, c)]
  | x :: r => if x.1 = k then (x.1, v, x.2.2) :: r else x :: mput k v c r

theorem mget_none {k : MKey} : ∀ {es : Ents}, mget k es = none ↔ ∀ x ∈ es, x.1 ≠ k
  | [] => by simp [mget]
  | x :: r => by
    unfold mget
    by_cases h : x.1 = k
    · simp [h]
    · simp [h, mget_none (es := r)]

theorem mget_at {k : MKey} : ∀ {es : Ents} {j : Nat} {x : MKey × AV × Nat}, (es.map (·.1)).Nodup → es[j]? = some x → x.1 = k → mget k es = some x.2.1
  | [], j, x, _, h, _ => by simp at h
  | y :: r, 0, x, _, h, hk => by simp at h; subst h; simp [mget, hk]
  | y :: r, j + 1, x, hn, h, hk => by
    simp only [List.getElem?_cons_succ] at h
    simp only [List.map_cons, List.nodup_cons] at hn
    have hne : y.1 ≠ k := fun e => hn.1 (by rw [e, ← hk]; exact List.mem_map.2 ⟨x, List.mem_of_getElem? h, rfl⟩)
    unfold mget
    rw [if_neg hne]
    exact mget_at hn.2 h hk

theorem mput_new {k : MKey} {v : AV} {c : Nat} : ∀ {es : Ents}, mget k es = none → mput k v c es = es ++ [(k, v, c)]
  | [], _ => rfl
  | x :: r, h => by
    have h' := mget_none.1 h
    have hx : x.1 ≠ k := h' x (by simp)
    unfold mput
    rw [if_neg hx, mput_new (es := r) (mget_none.2 fun y hy => h' y (by simp [hy]))]
    rfl

theorem mput_old {k : MKey} {v : AV} {c : Nat} : ∀ {es : Ents} {j : Nat} {x : MKey × AV × Nat}, (es.map (·.1)).Nodup → es[j]? = some x → x.1 = k → mput k v c es = es.set j (x.1, v, x.2.2)
  | [], j, x, _, h, _ => by simp at h
  | y :: r, 0, x, _, h, hk => by simp at h; subst h; simp [mput, hk]
  | y :: r, j + 1, x, hn, h, hk => by
    simp only [List.getElem?_cons_succ] at h
    simp only [List.map_cons, List.nodup_cons] at hn
    have hne : y.1 ≠ k := fun e => hn.1 (by rw [e, ← hk]; exact List.mem_map.2 ⟨x, List.mem_of_getElem? h, rfl⟩)
    unfold mput
    rw [if_neg hne, mput_old hn.2 h hk]
    rfl

/-- entries as they lie in memory -/
structure EntsAre (ρ : Inj) (F : Fz) (w : World) (kd : Nat) (arr : Array MapEntry) (es : Ents) : Prop where
  size : arr.size = es.length
  at_ : ∀ (i : Nat) (x : MKey × AV × Nat), es[i]? = some x → ∃ v, arr[i]? = some { key := x.1.val, val := v, born := x.2.2 } ∧ AR ρ F w v x.2.1
  kd : ∀ x ∈ es, x.1.kd = kd
  once : (es.map (·.1)).Nodup

theorem EntsAre.back {ρ : Inj} {F : Fz} {w : World} {kd : Nat} {arr : Array MapEntry} {es : Ents} (h : EntsAre ρ F w kd arr es) {i : Nat} {e : MapEntry} (he : arr[i]? = some e) :
    ∃ x, es[i]? = some x ∧ e = { key := x.1.val, val := e.val, born := x.2.2 } ∧ AR ρ F w e.val x.2.1 := by
  have hi : i < es.length := by rw [← h.size]; exact (Array.getElem?_eq_some_iff.1 he).1
  obtain ⟨v, h1, h2⟩ := h.at_ i es[i] (List.getElem?_eq_getElem hi)
  rw [he] at h1
  cases h1
  exact ⟨_, List.getElem?_eq_getElem hi, rfl, h2⟩

theorem EntsAre.keys {ρ : Inj} {F : Fz} {w : World} {kd : Nat} {arr : Array MapEntry} {es : Ents} (h : EntsAre ρ F w kd arr es) : ∀ e ∈ arr.toList, ∃ k' : MKey, e.key = k'.val ∧ k'.kd = kd := fun e he => by
  obtain ⟨i, hi⟩ := List.getElem?_of_mem he
  rw [Array.getElem?_toList] at hi
  obtain ⟨x, h1, h2, _⟩ := h.back hi
  exact ⟨x.1, by rw [h2], h.kd x (List.mem_of_getElem? h1)⟩

theorem EntsAre.found {ρ : Inj} {F : Fz} {w : World} {kd : Nat} {arr : Array MapEntry} {es : Ents} (h : EntsAre ρ F w kd arr es) {k : MKey} {r : Option (Nat × Value)} (hf : Found k arr.toList 0 r) :
    (r = none ∧ mget k es = none) ∨ ∃ j v x, r = some (j, v) ∧ es[j]? = some x ∧ x.1 = k ∧ arr[j]? = some { key := k.val, val := v, born := x.2.2 } ∧ AR ρ F w v x.2.1 ∧ mget k es = some x.2.1 := by
  cases r with
  | none =>
    refine .inl ⟨rfl, mget_none.2 fun x hx e => ?_⟩
    obtain ⟨i, hi⟩ := List.getElem?_of_mem hx
    obtain ⟨v, h1, _⟩ := h.at_ i x hi
    rw [← Array.getElem?_toList] at h1
    exact hf _ (List.mem_of_getElem? h1) (by rw [e])
  | some p =>
    obtain ⟨j, v⟩ := p
    obtain ⟨_, e, h1, h2, h3⟩ := hf
    simp only [Nat.sub_zero, Array.getElem?_toList] at h1
    obtain ⟨x, hx, he, hr⟩ := h.back h1
    have hk : x.1 = k := MKey.val_inj (by rw [he] at h2; exact h2)
    refine .inr ⟨j, v, x, rfl, hx, hk, ?_, h3 ▸ hr, mget_at h.once hx hk⟩
    rw [h1, he, h3, hk]

/-- a look-up: zero: what the map gives where it has nothing -/
def aLookup (ok : Bool) (kd : Nat) (zero : AV) (m k : AV) (σ : Heap) : PV AV :=
  match keyOf k with
  | some key =>
    match m with
    | .t .nilmap => ⟨key.kd = kd, lkRes ok zero false⟩
    | .t (.map kd' f) => ⟨key.kd = kd ∧ kd' = kd, (match f key with | some t => lkRes ok (.t t) true | none => lkRes ok zero false)⟩
    | .mapr r =>
      match σ r with
      | some (.map kd' f) => ⟨key.kd = kd ∧ kd' = kd, (match f key with | some a => lkRes ok a true | none => lkRes ok zero false)⟩
      | some (.mapl kd' es _) => ⟨key.kd = kd ∧ kd' = kd, (match mget key es with | some a => lkRes ok a true | none => lkRes ok zero false)⟩
      | _ => noV
    | _ => noV
  | none => noV

/-- what is read of a map's block -/
theorem lookup_run {P : Program} {α : Type} {w : World} {t kt et : TypeId} {kd b : Nat} {es : Array MapEntry} {clock : Nat} {m : MKey → Option α} {vals : MKey → Value} {z : Value} (ht : P.underlying t = some (.map kt et)) (hk : KeyTy P kt kd)
    (hz : ∀ w, (zeroValue et).run P w = .ok z w) (hb : w.heap[b]? = some (.map es clock)) (hm : MapIs kd es clock m vals) {k : MKey} (hkd : k.kd = kd) (ok : Bool) :
    (Instr.lookup t (.map (some b)) k.val ok).run P w = .ok (if ok then .tuple #[if (m k).isSome then vals k else z, .bool (m k).isSome] else (if (m k).isSome then vals k else z)) w := by
  obtain ⟨r, hr, hf⟩ := hk.find k es.toList w hkd (fun e he => by obtain ⟨k', h1, _, h3⟩ := hm.keys e he; exact ⟨k', h1, h3⟩)
  have hg : (getObj b).run P w = .ok (.map es clock) w := by simp [getObj, Sem.run, hb]
  have hc := fun bb => hk.check bb k w hkd
  unfold Instr.lookup
  rcases hm.found hf with ⟨h1, h2⟩ | ⟨j, e, h1, h2, h3, h4⟩
  · subst h1
    simp [run_underlying ht, hg, hc, hr, hz, h2]
  · subst h1
    simp [run_underlying ht, hg, hc, hr, h2]

theorem lookup_ents {P : Program} {ρ : Inj} {F : Fz} {w : World} {t kt et : TypeId} {kd b : Nat} {arr : Array MapEntry} {clock : Nat} {es : Ents} {z : Value} (ht : P.underlying t = some (.map kt et)) (hk : KeyTy P kt kd)
    (hz : ∀ w, (zeroValue et).run P w = .ok z w) (hb : w.heap[b]? = some (.map arr clock)) (hm : EntsAre ρ F w kd arr es) {k : MKey} (hkd : k.kd = kd) (ok : Bool) :
    (mget k es = none ∧ (Instr.lookup t (.map (some b)) k.val ok).run P w = .ok (if ok then .tuple #[z, .bool false] else z) w) ∨
    ∃ v a, mget k es = some a ∧ AR ρ F w v a ∧ (Instr.lookup t (.map (some b)) k.val ok).run P w = .ok (if ok then .tuple #[v, .bool true] else v) w := by
  obtain ⟨r, hr, hf⟩ := hk.find k arr.toList w hkd hm.keys
  have hg : (getObj b).run P w = .ok (.map arr clock) w := by simp [getObj, Sem.run, hb]
  have hc := fun bb => hk.check bb k w hkd
  unfold Instr.lookup
  rcases hm.found hf with ⟨h1, h2⟩ | ⟨j, v, x, h1, h2, h3, h4, h5, h6⟩
  · subst h1
    refine .inl ⟨h2, ?_⟩
    simp [run_underlying ht, hg, hc, hr, hz]
  · subst h1
    refine .inr ⟨v, x.2.1, h6, h5, ?_⟩
    simp [run_underlying ht, hg, hc, hr]

theorem lookup_nil {P : Program} {w : World} {t kt et : TypeId} {kd : Nat} {z : Value} (ht : P.underlying t = some (.map kt et)) (hk : KeyTy P kt kd) (hz : ∀ w, (zeroValue et).run P w = .ok z w) {k : MKey} (hkd : k.kd = kd) (ok : Bool) :
    (Instr.lookup t (.map none) k.val ok).run P w = .ok (if ok then .tuple #[z, .bool false] else z) w := by
  obtain ⟨r, hr, hf⟩ := hk.find k [] w hkd (fun e he => by cases he)
  have hr0 : r = none := by
    cases r with
    | none => rfl
    | some p => obtain ⟨_, e, h2, _⟩ := hf; simp at h2
  subst hr0
  have hc := fun bb => hk.check bb k w hkd
  unfold Instr.lookup
  simp [run_underlying ht, hc, hr, hz]

theorem AR.two {ρ : Inj} {F : Fz} {w : World} {v u : Value} {a b : AV} (h1 : AR ρ F w v a) (h2 : AR ρ F w u b) : AR ρ F w (.tuple #[v, u]) (.tup [a, b]) := by
  refine .tup rfl fun i x y hx hy => ?_
  match i with
  | 0 => simp at hx hy; subst hx; subst hy; exact h1
  | 1 => simp at hx hy; subst hx; subst hy; exact h2
  | i + 2 => simp at hx

theorem aLookup_sound {P : Program} {ρ : Inj} {F : Fz} {w : World} {σ : Heap} (hh : HR ρ F w σ) {t kt et : TypeId} {kd : Nat} {z : Value} {zero m k : AV} {M K : Value} (ht : P.underlying t = some (.map kt et)) (hk : KeyTy P kt kd)
    (hz : ∀ w, (zeroValue et).run P w = .ok z w) (hzero : AR ρ F w z zero) (hm : AR ρ F w M m) (hkk : AR ρ F w K k) (ok : Bool) (hd : (aLookup ok kd zero m k σ).dom) :
    ∃ v, (Instr.lookup t M K ok).run P w = .ok v w ∧ AR ρ F w v (aLookup ok kd zero m k σ).val := by
  have res : ∀ (v : Value) (a : AV) (b : Bool), AR ρ F w v a → AR ρ F w (if ok then .tuple #[v, .bool b] else v) (lkRes ok a b) := fun v a b h => by
    cases ok
    · simpa [lkRes] using h
    · exact AR.two h (.t (.bool b))
  unfold aLookup at hd ⊢
  split at hd
  · rename_i key hkey
    have hK := keyOf_val hkk hkey
    subst hK
    split at hd
    · cases hm with | t hm =>
      cases hm
      exact ⟨_, lookup_nil ht hk hz hd ok, res z zero false hzero⟩
    · rename_i kd' f
      cases hm with | t hm =>
      cases hm with
      | map r kd' es clock m' vals hb hf hmi htr =>
        obtain ⟨h1, h2⟩ := hd
        subst h2
        refine ⟨_, lookup_run ht hk hz hb hmi h1 ok, ?_⟩
        cases hfk : f key with
        | none => simpa [hfk] using res z zero false hzero
        | some t => simpa [hfk] using res (vals key) (.t t) true (.t (htr key t hfk))
    · rename_i r
      split at hd
      · rename_i kd' f hr
        obtain ⟨h1, h2⟩ := hd
        subst h2
        cases hh.blk r _ hr with
        | map hρ' hb hmi hv hf =>
          cases hm with
          | mapr hρ =>
            rw [hρ] at hρ'
            cases hρ'
            refine ⟨_, lookup_run ht hk hz hb hmi h1 ok, ?_⟩
            cases hfk : f key with
            | none => simpa [hfk] using res z zero false hzero
            | some a => simpa [hfk] using res _ a true (hv key a hfk)
          | maprDead r hρ => rw [hρ] at hρ'; cases hρ'
      · rename_i kd' es cl hr
        obtain ⟨h1, h2⟩ := hd
        subst h2
        cases hh.blk r _ hr with
        | mapl hρ' hb hs ha hkd hn hf =>
          cases hm with
          | mapr hρ =>
            rw [hρ] at hρ'
            cases hρ'
            rcases lookup_ents ht hk hz hb ⟨hs, ha, hkd, hn⟩ h1 ok with ⟨g1, g2⟩ | ⟨v, a, g1, g2, g3⟩
            · exact ⟨_, g2, by rw [g1]; exact res z zero false hzero⟩
            · exact ⟨_, g3, by rw [g1]; exact res v a true g2⟩
          | maprDead r hρ => rw [hρ] at hρ'; cases hρ'
      · exact hd.elim
    · exact hd.elim
  · exact hd.elim

def aMapUpd (kd : Nat) (m k v : AV) (σ : Heap) : PV Ups :=
  match keyOf k, m with
  | some key, .mapr r =>
    match σ r with
    | some (.map kd' f) => ⟨key.kd = kd ∧ kd' = kd, [(r, .map kd (updM f key v))]⟩
    | some (.mapl kd' es c) => ⟨key.kd = kd ∧ kd' = kd, [(r, .mapl kd (mput key v c es) (if (mget key es).isSome then c else c + 1))]⟩
    | _ => ⟨False, []⟩
  | _, _ => ⟨False, []⟩

theorem sameBits_key (k : MKey) : Instr.sameBits 10000 k.val k.val = true := by
  cases k with
  | i n => simp [MKey.val, Instr.sameBits]
  | s b => simp [MKey.val, Instr.sameBits, ba_beq]
  | p a b =>
    show Instr.sameBits (9999 + 1) _ _ = true
    rw [MKey.val]
    simp [Instr.sameBits]

end Go.Dm
