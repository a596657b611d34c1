/-
  Which blocks a run leaves alone.
  Conditions: none.
-/
import Derived.Test.YtbhlfbkheijojaaEv6
namespace Go.Dm

theorem bindL_mem {α β : Type} {f : α → Option (List β)} : ∀ {l : List α} {m : List β}, bindL f l = some m → (∀ y ∈ m, ∃ x ∈ l, ∃ r, f x = some r ∧ y ∈ r) ∧ ∀ x ∈ l, ∃ r, f x = some r ∧ ∀ y ∈ r, y ∈ m
  | [], m, h => by cases h; exact ⟨fun y hy => by simp at hy, fun x hx => by simp at hx⟩
  | x :: l, m, h => by
    unfold bindL at h
    split at h
    · cases h
    · rename_i r hr
      split at h
      · cases h
        exact ⟨fun y hy => ⟨x, by simp, _, hr, hy⟩, fun z hz => by simp at hz; subst hz; exact ⟨_, hr, fun y hy => hy⟩⟩
      · rename_i a b
        split at h
        · cases h
        · rename_i m' hm
          cases h
          have ih := bindL_mem hm
          refine ⟨fun y hy => ?_, fun z hz => ?_⟩
          · rcases List.mem_append.1 hy with hy | hy
            · exact ⟨x, by simp, r, hr, hy⟩
            · obtain ⟨z, hz, r', h1, h2⟩ := ih.1 y hy
              exact ⟨z, List.mem_cons_of_mem _ hz, r', h1, h2⟩
          · rcases List.mem_cons.1 hz with rfl | hz
            · exact ⟨r, hr, fun y hy => List.mem_append.2 (.inl hy)⟩
            · obtain ⟨r', h1, h2⟩ := ih.2 z hz
              exact ⟨r', h1, fun y hy => List.mem_append.2 (.inr (h2 y hy))⟩

structure Low (s s' : SS) : Prop where
  le : s'.low ≤ s.low
  same : ∀ k, k < s'.low → s'.h.get k = s.h.get k
theorem Low.refl (s : SS) : Low s s := ⟨Nat.le_refl _, fun _ _ => rfl⟩
theorem Low.trans {a b c : SS} (h : Low a b) (k : Low b c) : Low a c := ⟨Nat.le_trans k.le h.le, fun j hj => (k.same j hj).trans (h.same j (Nat.lt_of_lt_of_le hj k.le))⟩

theorem lowU_ok : ∀ (u : SUps) (h : TH) (low : Nat), okU u = true → lowU low u ≤ low ∧ ∀ k, k < lowU low u → (upsT h u).get k = h.get k
  | [], h, low, _ => ⟨Nat.le_refl _, fun _ _ => rfl⟩
  | (j, b) :: r, h, low, hk => by
    simp only [okU, nat_blt, Bool.and_eq_true, decide_eq_true_eq] at hk
    have ih := lowU_ok r (Tr.set b 64 h j) (bif Nat.blt j low then j else low) hk.2
    simp only [lowU, upsT]
    have hle : (bif Nat.blt j low then j else low) ≤ low ∧ (bif Nat.blt j low then j else low) ≤ j := by
      rw [nat_blt]
      by_cases h : j < low
      · simp [h]; omega
      · simp [h]; omega
    refine ⟨Nat.le_trans ih.1 hle.1, fun k hlt => ?_⟩
    rw [ih.2 k hlt, Tr.get_set64 b h k hk.1, if_neg (by omega)]

theorem Low.ap {s : SS} {d : Option Tmp} {x : SV × SUps} (h : okU x.2 = true) : Low s (s.ap d x) :=
  have := lowU_ok x.2 s.h s.low h
  ⟨this.1, this.2⟩

def CallLow (call : Nat → List SV → TH → Nat → Option (List SOut)) : Prop := ∀ f args h c outs, call f args h c = some outs → ∀ o ∈ outs, ∀ k, k < o.2.2.2 → o.2.1.get k = h.get k

theorem Low.after {s : SS} {d : Option Tmp} {x : SOut} (h : ∀ k, k < x.2.2.2 → x.2.1.get k = s.h.get k) : Low s (afterCall s d x) := by
  refine ⟨?_, fun k hk => h k ?_⟩
  · show (bif Nat.blt x.2.2.2 s.low then x.2.2.2 else s.low) ≤ s.low
    rw [nat_blt]; by_cases e : x.2.2.2 < s.low <;> simp [e]; omega
  · have hk' : k < (bif Nat.blt x.2.2.2 s.low then x.2.2.2 else s.low) := hk
    rw [nat_blt] at hk'
    by_cases e : x.2.2.2 < s.low <;> simp [e] at hk' <;> omega

theorem sDo_low {X : Ctx} {call : Nat → List SV → TH → Nat → Option (List SOut)} (hc : CallLow call) {b0 : Nat} {o : Oper} {s : SS} :
    (∀ s', sDo X call b0 o s = .one s' → Low s s') ∧ ∀ l, sDo X call b0 o s = .many l → ∀ s' ∈ l, Low s s' := by
  have hnx : ∀ r, (∀ s', nxOp s o.dst r = .one s' → Low s s') ∧ ∀ l, nxOp s o.dst r = .many l → ∀ s' ∈ l, Low s s' := fun r => by
    unfold nxOp
    split
    · exact ⟨fun s' h => (by cases h), fun l h => (by cases h)⟩
    · rename_i l0
      cases hb : (okD s.ts o.dst && l0.all fun x => okU x.2) with
      | false => exact ⟨fun s' h => (by simp at h), fun l h => (by simp at h)⟩
      | true =>
        simp only [Bool.and_eq_true, List.all_eq_true] at hb
        simp only [cond_true]
        split
        · exact ⟨fun s' h => (by cases h), fun l h => (by cases h)⟩
        · rename_i x
          exact ⟨fun s' h => (by cases h; exact Low.ap (hb.2 x (by simp))), fun l h => (by cases h)⟩
        · refine ⟨fun s' h => (by cases h), fun l h => ?_⟩
          cases h
          intro s' hs'
          obtain ⟨x, hx, rfl⟩ := List.mem_map.1 hs'
          exact Low.ap (hb.2 x hx)
  have hcall : ∀ r, (∀ l, r = some l → ∀ x ∈ l, ∀ k, k < x.2.2.2 → x.2.1.get k = s.h.get k) → (∀ s', callOp s o.dst r = .one s' → Low s s') ∧ ∀ l, callOp s o.dst r = .many l → ∀ s' ∈ l, Low s s' := fun r hr => by
    unfold callOp
    split
    · exact ⟨fun s' h => (by cases h), fun l h => (by cases h)⟩
    · rename_i l0
      cases hb : okD s.ts o.dst with
      | false => exact ⟨fun s' h => (by simp at h), fun l h => (by simp at h)⟩
      | true =>
        simp only [cond_true]
        split
        · exact ⟨fun s' h => (by cases h), fun l h => (by cases h)⟩
        · rename_i x
          exact ⟨fun s' h => (by cases h; exact Low.after (hr _ rfl x (by simp))), fun l h => (by cases h)⟩
        · refine ⟨fun s' h => (by cases h), fun l h => ?_⟩
          cases h
          intro s' hs'
          obtain ⟨x, hx, rfl⟩ := List.mem_map.1 hs'
          exact Low.after (hr _ rfl x hx)
  have hone : ∀ r, (∀ s', oneOp s o.dst r = .one s' → Low s s') ∧ ∀ l, oneOp s o.dst r = .many l → ∀ s' ∈ l, Low s s' := fun r => by
    unfold oneOp
    split
    · exact ⟨fun s' h => (by cases h), fun l h => (by cases h)⟩
    · rename_i x
      cases hb : (okD s.ts o.dst && okU x.2) with
      | false => exact ⟨fun s' h => (by simp at h), fun l h => (by simp at h)⟩
      | true =>
        simp only [Bool.and_eq_true] at hb
        exact ⟨fun s' h => (by simp only [cond_true, OR.one.injEq] at h; subst h; exact Low.ap hb.2), fun l h => by simp at h⟩
  unfold sDo
  cases isCallOp o.op with
  | true =>
    refine hcall _ fun l hl x hx k hk => ?_
    unfold callIt at hl
    split at hl
    · exact hc _ _ _ _ _ hl x hx k hk
    · cases hl
  | false =>
    cases isNx o.op with
    | true => exact hnx _
    | false => exact hone _

theorem sNest_low {X : Ctx} {call : Nat → List SV → TH → Nat → Option (List SOut)} (hc : CallLow call) {b0 : Nat} {ops : Array Oper} : ∀ (l : List Oper) (s : SS) (outs : List SS), sNest X call b0 ops l s = some outs → ∀ s' ∈ outs, Low s s'
  | [], s, outs, h => by cases h; intro s' hs; simp at hs; subst hs; exact Low.refl _
  | o :: r, s, outs, h => by
    unfold sNest at h
    simp only [sDoF_eq] at h
    split at h
    · cases h
    · obtain ⟨h1, h2⟩ := cond_some h
      intro s' hs'
      have := sNest_low hc r _ outs h2 s' hs'
      exact ⟨this.le, this.same⟩
    · have hd := sDo_low (X := X) hc (b0 := b0) (o := o) (s := s)
      split at h
      · cases h
      · rename_i s1 h1
        intro s' hs'
        exact (hd.1 s1 h1).trans (sNest_low hc r _ outs h s' hs')
      · rename_i l h1
        intro s' hs'
        obtain ⟨x, hx, q, hq, hy⟩ := (bindL_mem h).1 s' hs'
        exact (hd.2 l h1 x hx).trans (sNest_low hc r _ q hq s' hy)

theorem mrgT_get : ∀ (a b : TH) (k : Nat), (mrgT a b).get k = match b.get k with | some x => some x | none => a.get k
  | .lf, .lf, k => rfl
  | .nd l v r, .lf, k => rfl
  | .lf, .nd l v r, k => by
    show (Tr.nd l v r).get k = _
    cases (Tr.nd l v r).get k <;> rfl
  | .nd l v r, .nd l' v' r', 0 => by
    rw [Tr.get_zero, Tr.get_zero, Tr.get_zero]
    simp only [mrgT, Tr.val]
    cases v' <;> rfl
  | .nd l v r, .nd l' v' r', k + 1 => by
    rw [Tr.get_succ, Tr.get_succ, Tr.get_succ]
    have h1 := mrgT_get l l' (Nat.div k 2)
    have h2 := mrgT_get r r' (Nat.div k 2)
    cases Nat.beq (Nat.mod k 2) 0
    · exact h2
    · exact h1

/-- what can be reached is part of the memory -/
theorem reachT_ok {h : TH} : ∀ (n : Nat) (w ks : List Nat) (sub : TH) (ks' : List Nat) (sub' : TH), reachT h n w ks sub = some (ks', sub') → (∀ k, sub.get k = if ks.contains k then h.get k else none) →
    ∀ k, sub'.get k = if ks'.contains k then h.get k else none
  | 0, w, ks, sub, ks', sub', e, _ => by cases e
  | n + 1, [], ks, sub, ks', sub', e, hi => by cases e; exact hi
  | n + 1, k :: r, ks, sub, ks', sub', e, hi => by
    unfold reachT at e
    split at e
    · exact reachT_ok n r ks sub ks' sub' e hi
    · split at e
      · cases e
      · rename_i b hb
        cases hk0 : Nat.blt k 9223372036854775808 with
        | true =>
          have hk : k < 9223372036854775808 := by simpa [nat_blt] using hk0
          rw [hk0] at e
          simp only [cond_true] at e
          refine reachT_ok n _ _ _ ks' sub' e fun j => ?_
          rw [Tr.get_set64 b sub j hk, hi j]
          by_cases ej : j = k
          · subst ej; simp [hb]
          · simp [ej]
        | false => rw [hk0] at e; cases e

theorem Tr.hasK_eq {α : Type} (t : Tr α) (k : Nat) : t.hasK k = (t.get k).isSome := by
  unfold Tr.hasK
  cases t.get k <;> rfl
theorem hasK_in {h sub : TH} {ks : List Nat} (hs : ∀ k, sub.get k = if ks.contains k then h.get k else none) (k : Nat) (hk : sub.hasK k = true) : ks.contains k = true := by
  rw [Tr.hasK_eq, hs k] at hk
  by_cases hm : ks.contains k = true
  · exact hm
  · rw [if_neg hm] at hk; cases hk

theorem callLoc_low {call : Nat → List SV → TH → Nat → Option (List SOut)} (hc : CallLow call) {s s' : SS} {d : Option Tmp} {fa : Option (FuncId × List SV)} {x : Rec} (h : callLoc call s d fa = some (s', x)) : Low s s' := by
  unfold callLoc at h
  split at h
  · cases h
  · rename_i f args
    split at h
    · cases h
    · rename_i ks sub hr
      obtain ⟨h1, h2⟩ := cond_some h
      split at h2
      · rename_i y hy
        obtain ⟨h3, h4⟩ := cond_some h2
        simp only [Option.some.injEq, Prod.mk.injEq] at h4
        obtain ⟨rfl, _⟩ := h4
        have hsub := reachT_ok _ _ _ _ _ _ hr (fun k => rfl)
        have hcl := hc _ _ _ _ _ hy y (by simp)
        have key : ∀ k, k < y.2.2.2 → (mrgT s.h y.2.1).get k = s.h.get k := fun k hk => by
          rw [mrgT_get, hcl k hk, hsub k]
          by_cases hm : ks.contains k = true
          · rw [if_pos hm]; cases s.h.get k <;> rfl
          · rw [if_neg hm]
        exact Low.after (s := s) (d := d) (x := (y.1, mrgT s.h y.2.1, y.2.2.1, y.2.2.2)) key
      · cases h2

theorem sNestD_low {X : Ctx} {call : Nat → List SV → TH → Nat → Option (List SOut)} (hc : CallLow call) {b0 : Nat} {ops : Array Oper} : ∀ (l : List Oper) (s : SS) (rs : List Rec) (s' : SS) (rs' : List Rec), sNestD X call b0 ops l s rs = some (s', rs') → Low s s'
  | [], s, rs, s', rs', h => by cases h; exact Low.refl _
  | o :: r, s, rs, s', rs', h => by
    unfold sNestD at h
    simp only [sDoF_eq] at h
    split at h
    · cases h
    · obtain ⟨h1, h2⟩ := cond_some h
      have := sNestD_low hc r _ _ _ _ h2
      exact ⟨this.le, this.same⟩
    · cases hic : isCallOp o.op with
      | true =>
        rw [hic] at h
        obtain ⟨_, h2⟩ := cond_some' h
        split at h2
        · cases h2
        · rename_i s1 x1 h3
          exact (callLoc_low hc h3).trans (sNestD_low hc r _ _ _ _ h2)
      | false =>
        rw [hic] at h
        simp only [cond_false] at h
        split at h
        · rename_i s1 h1
          exact ((sDo_low (X := X) hc (b0 := b0) (o := o) (s := s)).1 s1 h1).trans (sNestD_low hc r _ _ _ _ h)
        · cases h

theorem sRegion_low {X : Ctx} {call : Nat → List SV → TH → Nat → Option (List SOut)} (hc : CallLow call) {ops : Array Oper} {draw : Bool} {s : SS} {outs : List SS} (h : sRegion X call ops draw s = some outs) : ∀ s' ∈ outs, Low s s' := by
  unfold sRegion at h
  split at h
  · intro s' hs'
    have := sNest_low hc _ _ _ h s' hs'
    exact ⟨this.le, this.same⟩
  · obtain ⟨_, h2⟩ := cond_some h
    unfold sRegD at h2
    split at h2
    · cases h2
    · rename_i s1 l h1
      obtain ⟨_, h3⟩ := cond_some h2
      cases h3
      intro s' hs'
      simp at hs'
      subst hs'
      have := sNestD_low hc _ _ _ _ _ h1
      exact ⟨this.le, this.same⟩

theorem sStep_low {X : Ctx} {call : Nat → List SV → TH → Nat → Option (List SOut)} (hc : CallLow call) {ih : Code → SS → Option (List SE)} (hi : ∀ c s outs, ih c s = some outs → ∀ o ∈ outs, Low s o.2)
    {c : Code} {s : SS} {outs : List SE} (h : sStep X call ih c s = some outs) : ∀ o ∈ outs, Low s o.2 := by
  have seqq : ∀ (l : List SE) (g : SS → Option (List SE)) (m : List SE), (∀ o ∈ l, Low s o.2) → (∀ s' r, g s' = some r → ∀ o ∈ r, Low s' o.2) →
      bindL (fun x => match x with | (.normal, s) => g s | (e, s) => some [(e, s)]) l = some m → ∀ o ∈ m, Low s o.2 := fun l g m hl hg hm o ho => by
    obtain ⟨x, hx, r, hr, hor⟩ := (bindL_mem hm).1 o ho
    have h1 := hl x hx
    obtain ⟨e, s1⟩ := x
    cases e with
    | normal => exact h1.trans (hg _ _ hr o hor)
    | _ => cases hr; simp at hor; subst hor; exact h1
  cases c with
  | skip => cases h; intro o ho; simp at ho; subst ho; exact Low.refl _
  | region id ops d =>
    obtain ⟨l, hl, rfl⟩ := Option.map_eq_some_iff.1 h
    intro o ho
    obtain ⟨s', hs', rfl⟩ := List.mem_map.1 ho
    exact sRegion_low hc hl s' hs'
  | seq a b =>
    simp only [sStep] at h
    split at h
    · cases h
    · rename_i l hl
      exact seqq l (ih b) outs (hi _ _ _ hl) (fun s' r hr => hi _ _ _ hr) h
  | cond c a b =>
    simp only [sStep, sCond] at h
    split at h
    · exact hi _ _ _ h
    · exact hi _ _ _ h
    · split at h
      · rename_i l m hl hm
        cases h
        intro o ho
        rcases List.mem_append.1 ho with ho | ho
        · exact hi _ _ _ hl o ho
        · exact hi _ _ _ hm o ho
      · cases h
    · exact hi _ _ _ h
    · exact hi _ _ _ h
    · cases h
  | block id c =>
    obtain ⟨l, hl, rfl⟩ := Option.map_eq_some_iff.1 h
    intro o ho
    obtain ⟨x, hx, rfl⟩ := List.mem_map.1 ho
    have := hi _ _ _ hl x hx
    split
    · split <;> exact this
    · exact this
  | loop c =>
    simp only [sStep] at h
    split at h
    · cases h
    · rename_i l hl
      exact seqq l (ih (.loop c)) outs (hi _ _ _ hl) (fun s' r hr => hi _ _ _ hr) h
  | exit id => cases h; intro o ho; simp at ho; subst ho; exact Low.refl _
  | scope c =>
    simp only [sStep] at h
    split at h
    · cases h
    · rename_i l hl
      split at h
      · cases h; exact hi _ _ _ hl
      · cases h
  | label l => cases h; intro o ho; simp at ho; subst ho; exact Low.refl _
  | ret => cases h; intro o ho; simp at ho; subst ho; exact Low.refl _
  | _ => cases h

theorem sTrim_low (args : List SV) (o : SOut) : (sTrim args o).2.2.2 ≤ o.2.2.2 ∧ ∀ j, j < (sTrim args o).2.2.2 → (sTrim args o).2.1.get j = o.2.1.get j := by
  unfold sTrim
  split
  · split
    · split
      · rename_i k off len x1 x y w h1 z es he
        cases hk : Nat.blt k 9223372036854775808 with
        | false => exact ⟨Nat.le_refl _, fun _ _ => rfl⟩
        | true =>
          have hk' : k < 9223372036854775808 := by simpa [nat_blt] using hk
          simp only [cond_true]
          cases hl : Nat.blt k o.2.2.2 with
          | true =>
            have : k < o.2.2.2 := by simpa [nat_blt] using hl
            refine ⟨by simp only [cond_true]; omega, fun j hj => ?_⟩
            simp only [cond_true] at hj
            rw [Tr.get_set64 _ _ _ hk', if_neg (by omega)]
          | false =>
            have : ¬ k < o.2.2.2 := by simpa [nat_blt] using hl
            refine ⟨by simp only [cond_false]; omega, fun j hj => ?_⟩
            simp only [cond_false] at hj
            rw [Tr.get_set64 _ _ _ hk', if_neg (by omega)]
      · exact ⟨Nat.le_refl _, fun _ _ => rfl⟩
    · exact ⟨Nat.le_refl _, fun _ _ => rfl⟩
  · exact ⟨Nat.le_refl _, fun _ _ => rfl⟩

theorem sTrims_low {X : Ctx} {f : Nat} {args : List SV} {l : List SOut} {h : TH} (hl : ∀ o ∈ l, ∀ k, k < o.2.2.2 → o.2.1.get k = h.get k) :
    ∀ o ∈ (bif X.cuts f then l.map (sTrim args) else l), ∀ k, k < o.2.2.2 → o.2.1.get k = h.get k := by
  cases X.cuts f with
  | false => exact hl
  | true =>
    intro o ho k hk
    obtain ⟨y, hy, rfl⟩ := List.mem_map.1 ho
    have := sTrim_low args y
    rw [this.2 k hk]
    exact hl y hy k (by omega)

theorem sRets_mem {P : Program} {fn : Func} : ∀ {l : List SE} {m : List SOut}, sRets P fn l = some m → (∀ y ∈ m, ∃ x ∈ l, sRet P fn x = some y) ∧ ∀ x ∈ l, ∃ y ∈ m, sRet P fn x = some y
  | [], m, h => by cases h; exact ⟨fun y hy => by simp at hy, fun x hx => by simp at hx⟩
  | x :: l, m, h => by
    unfold sRets at h
    split at h
    · rename_i v vs hv hvs
      cases h
      have ih := sRets_mem hvs
      refine ⟨fun y hy => ?_, fun z hz => ?_⟩
      · rcases List.mem_cons.1 hy with rfl | hy
        · exact ⟨x, by simp, hv⟩
        · obtain ⟨z, hz, h1⟩ := ih.1 y hy; exact ⟨z, List.mem_cons_of_mem _ hz, h1⟩
      · rcases List.mem_cons.1 hz with rfl | hz
        · exact ⟨v, by simp, hv⟩
        · obtain ⟨y, hy, h1⟩ := ih.2 z hz; exact ⟨y, List.mem_cons_of_mem _ hy, h1⟩
    · cases h
theorem sRet_low {P : Program} {fn : Func} {x : SE} {y : SOut} (h : sRet P fn x = some y) : y.2.1 = x.2.h ∧ y.2.2.2 = x.2.low := by
  unfold sRet at h
  split at h
  · obtain ⟨v, _, rfl⟩ := Option.map_eq_some_iff.1 h; exact ⟨rfl, rfl⟩
  · obtain ⟨v, _, rfl⟩ := Option.map_eq_some_iff.1 h; exact ⟨rfl, rfl⟩
  · cases h

theorem sMerge_low {h : TH} {c : Nat} {l outs : List SOut} (hm : sMerge h c l = some outs) (hl : ∀ o ∈ l, ∀ k, k < o.2.2.2 → o.2.1.get k = h.get k) : ∀ o ∈ outs, ∀ k, k < o.2.2.2 → o.2.1.get k = h.get k := by
  unfold sMerge at hm
  split at hm
  · cases hm
  · cases hm; exact hl
  · split at hm
    · rename_i hb
      split at hm
      · rename_i z hz
        split at hm
        · cases hm
          intro o ho k hk
          simp at ho
          subst ho
          simp only at hk ⊢
          simp only [Bool.and_eq_true, decide_eq_true_eq] at hb
          split
          · rw [Tr.get_set64 _ _ _ hb.2, if_neg (by omega)]
          · rfl
        · cases hm
      · cases hm
    · cases hm

theorem sCall_low {X : Ctx} {ih : Code → SS → Option (List SE)} (hi : ∀ c s outs, ih c s = some outs → ∀ o ∈ outs, Low s o.2) : CallLow (sCall X ih) := by
  intro f args h c outs hc
  unfold sCall at hc
  split at hc
  · rename_i x hx
    split at hc
    · rename_i hok
      cases hc
      intro o ho k hk
      simp at ho
      subst ho
      exact (lowU_ok x.2 h c hok).2 k hk
    · cases hc
  · split at hc
    · rename_i fn hf
      split at hc
      · rename_i code hb
        obtain ⟨_, hc⟩ := cond_some hc
        split at hc
        · cases hc
        · rename_i outs1 ho
          split at hc
          · cases hc
          · rename_i l hl
            refine sMerge_low hc (sTrims_low fun o hom k hk => ?_)
            obtain ⟨x, hx, hr⟩ := (sRets_mem hl).1 o hom
            have := hi _ _ _ ho x hx
            have e := sRet_low hr
            rw [e.1]
            exact this.same k (by rw [← e.2]; exact hk)
      · cases hc
    · cases hc

theorem sRun_low {X : Ctx} : ∀ (n : Nat) (c : Code) (s : SS) (outs : List SE), sRun X n c s = some outs → ∀ o ∈ outs, Low s o.2
  | 0, c, s, outs, h => by cases h
  | n + 1, c, s, outs, h => by
    have h' : sStepF X (sCall X (sRun X n)) (sRun X n) c s = some outs := h
    rw [sStepF_eq] at h'
    exact sStep_low (sCall_low (sRun_low n)) (sRun_low n) h'

end Go.Dm
