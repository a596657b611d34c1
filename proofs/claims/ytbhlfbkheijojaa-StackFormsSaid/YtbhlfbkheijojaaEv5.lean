/-
  Operations upon memory: the machine that can be run does what the abstract machine does.
  Conditions: none.
-/
import Derived.Test.YtbhlfbkheijojaaEv4
namespace Go.Dm

theorem dens_get (E : Env) (l : List SV) (i : Nat) : (dens E l)[i]? = (l[i]?).map (SV.den E) := by rw [dens_eq, List.getElem?_map]
theorem dens_drop (E : Env) (l : List SV) (n : Nat) : dens E (l.drop n) = (dens E l).drop n := by simp only [dens_eq, List.map_drop]
theorem dens_take (E : Env) (l : List SV) (n : Nat) : dens E (l.take n) = (dens E l).take n := by simp only [dens_eq, List.map_take]
theorem flat_den (E : Env) (v : SV) : flat (v.den E) = sFlat v := by cases v <;> rfl
theorem avCells_den (E : Env) (v : SV) : avCells (v.den E) = (sCells v).map (dens E) := by cases v <;> rfl
theorem all_flat (E : Env) : ∀ l : List SV, (dens E l).all flat = l.all sFlat
  | [] => rfl
  | a :: r => by simp only [dens, List.all_cons, flat_den, all_flat E r]
theorem splice_den (E : Env) (l : List SV) (o : Nat) (cs : List SV) : dens E (sSplice l o cs) = splice (dens E l) o (dens E cs) := by
  unfold sSplice splice
  simp only [dens_append, dens_drop, dens_take, dens_length]
theorem rows_getD (E : Env) (es : List (List SV)) (e : Nat) (x : List SV) (h : es[e]? = some x) : (es.map (dens E)).getD e [] = dens E x ∧ e < es.length := by
  have := (List.getElem?_eq_some_iff.1 h).1
  exact ⟨by simp [List.getD, h], this⟩

section
variable {E : Env}

theorem sCst_ok {k : Kd} {v : SV} (h : sCst k v = true) : (cst k (v.den E)).dom := by
  cases k <;> cases v <;> simp [sCst, kEq_eq] at h <;> simp_all [cst, SV.den, isI, isB, isS]

theorem cst_val {k : Kd} {v : SV} (h : sCst k v = true) : (cst k (v.den E)).val = v.den E := cst_ok (sCst_ok h)

theorem sCsts_ok (xs : List SV) : ∀ (ks : List Kd) (o : Nat), sCsts ks ((xs.drop o).take ks.length) = true → o + ks.length ≤ xs.length ∧ castDom (fun j => (dens E xs).getD j .any) o ks ∨ (ks = [] ∧ castDom (fun j => (dens E xs).getD j .any) o ks)
  | [], o, _ => .inr ⟨rfl, trivial⟩
  | k :: ks, o, h => by
    rcases Nat.lt_or_ge o xs.length with hlt | hge
    · rw [List.drop_eq_getElem_cons hlt] at h
      simp only [List.length_cons, List.take_succ_cons, sCsts, Bool.and_eq_true] at h
      have hg : (dens E xs).getD o .any = (xs[o]).den E := by rw [List.getD_eq_getElem?_getD, dens_get, List.getElem?_eq_getElem hlt]; rfl
      have hc : (cst k ((dens E xs).getD o .any)).dom := by rw [hg]; exact sCst_ok h.1
      rcases sCsts_ok xs ks (o + 1) h.2 with ⟨h1, h2⟩ | ⟨rfl, h2⟩
      · exact .inl ⟨by simp only [List.length_cons]; omega, hc, h2⟩
      · exact .inl ⟨by simp; omega, hc, trivial⟩
    · rw [List.drop_eq_nil_of_le hge] at h
      simp [sCsts] at h

theorem sLoadK_ok {ag : Bool} {ks : List Kd} {x : List SV} {o : Nat} {v : SV} (h : sLoadK ag ks x o = some v) (hz : ks = [] → o ≤ x.length) :
    Ok E (loadK ag ks (dens E x).length (fun j => (dens E x).getD j .any) o) v := by
  unfold sLoadK at h
  split at h
  · simp only at h
    obtain ⟨h1, h2⟩ := cond_some h
    cases h2
    have hc : o + ks.length ≤ x.length ∧ castDom (fun j => (dens E x).getD j .any) o ks := by
      rcases sCsts_ok x ks o h1 with h | ⟨rfl, h⟩
      · exact h
      · exact ⟨by have := hz rfl; simpa using this, h⟩
    refine ⟨⟨by rw [dens_length]; exact hc.1, hc.2⟩, ?_⟩
    simp only [loadK, SV.den]
    rw [castVal_ok (x := dens E x) (fun j _ => rfl) ks o (by rw [dens_length]; exact hc.1) hc.2, dens_take, dens_drop]
  · rename_i k
    unfold sOne at h
    rw [nthL_eq] at h
    split at h
    · rename_i u hu
      obtain ⟨h1, h2⟩ := cond_some h
      cases h2
      have hlt := (List.getElem?_eq_some_iff.1 hu).1
      have hg : (dens E x).getD o .any = v.den E := by simp [List.getD, dens_get, hu]
      refine ⟨⟨by rw [dens_length]; exact hlt, ?_⟩, ?_⟩
      · show (cst k ((dens E x).getD o .any)).dom
        rw [hg]; exact sCst_ok h1
      · show (cst k ((dens E x).getD o .any)).val = _
        rw [hg]; exact cst_val h1
    · cases h
  · cases h

theorem sLoad_ok {ag : Bool} {ks : List Kd} {k e o : Nat} {h : TH} {v : SV} (hl : sLoad ag ks k e o h = some v) (hz : ks ≠ []) : Ok E (aLoadK ag ks (.ptr k e o) (denH E h)) v := by
  unfold sLoad at hl
  split at hl
  · rename_i tag sz es hk
    rw [nthL_eq] at hl
    split at hl
    · rename_i x hx
      have hr := rows_getD E es e x hx
      have := sLoadK_ok (E := E) hl (fun e => absurd e hz)
      unfold aLoadK
      simp only [denH_some hk, SBlk.den, hr.1]
      exact ⟨⟨by simpa using hr.2, this.1⟩, this.2⟩
    · cases hl
  · cases hl

theorem kindsOf_ne {P : Program} {t : TypeId} {n : Nat} (h : n ≠ 0) : kindsOf P t n ≠ [] := fun e => by
  have := kindsOf_len (P := P) (t := t) (n := n)
  rw [e] at this; simp at this; omega

theorem sStore_ok {n k e o : Nat} {v : SV} {h : TH} {u : SUps} (hs : sStore n k e o v h = some u) : OkU E (aStore n (.ptr k e o) (v.den E) (denH E h)) u := by
  unfold sStore at hs
  split at hs
  · rename_i tag z es cs hk hc
    rw [nthL_eq] at hs
    split at hs
    · rename_i x hx
      obtain ⟨h1, h2⟩ := cond_some hs
      cases h2
      simp only [Bool.and_eq_true, Bool.not_eq_true', nat_beq, nat_ble, decide_eq_true_eq] at h1
      obtain ⟨⟨⟨h1, h2⟩, h3⟩, h4⟩ := h1
      have hr := rows_getD E es e x hx
      unfold aStore
      simp only [denH_some hk, SBlk.den, avCells_den, hc, Option.map_some, hr.1]
      refine ⟨⟨(fun e => by rw [e] at h1; cases h1), by rw [all_flat]; exact h2, by rw [dens_length]; exact h3, by simpa using hr.2, by rw [dens_length]; exact h4⟩, ?_⟩
      simp only [denU, List.map_cons, List.map_nil, SBlk.den, setL_eq, List.map_set, splice_den]
    · cases hs
  · cases hs

theorem sNewVar_ok {d : Nat} {cs : List SV} {h : TH} {x : SV × SUps} (hs : sNewVar d cs h = some x) : Ok2 E (newVarV d (dens E cs) (denH E h)) x := by
  unfold sNewVar at hs
  split at hs
  · rename_i hd
    cases hs
    exact ⟨denH_none hd, by simp [newVarV, SV.den, denU, SBlk.den]⟩
  · cases hs

theorem sZero_ok {P : Program} {t : TypeId} {zs : List SV} (h : sZero P t = some zs) : zeroOf P t = some (dens E zs) := by
  unfold sZero at h
  unfold zeroOf
  obtain ⟨z, hz, rfl⟩ := Option.map_eq_some_iff.1 h
  rw [hz]
  simp only [Option.map_some, dens_eq, List.map_map]
  congr 1
  exact List.map_congr_left fun x _ => (den_sabsC E x).symm

theorem sFill_ok {place : Nat → Option (Nat × Nat)} : ∀ (parts : List (Nat × SV)) (cells out : List SV), sFill place cells parts = some out →
    fillV place (dens E cells) (parts.map fun p => (p.1, p.2.den E)) = some (dens E out)
  | [], cells, out, h => by cases h; rfl
  | (i, v) :: r, cells, out, h => by
    unfold sFill at h
    simp only [List.map_cons]
    unfold fillV
    split at h
    · rename_i off size cs hp hc
      obtain ⟨h1, h2⟩ := cond_some h
      simp only [Bool.and_eq_true, nat_beq, nat_ble, decide_eq_true_eq] at h1
      simp only [hp, avCells_den, hc, Option.map_some, dens_length]
      rw [if_pos h1, ← splice_den]
      exact sFill_ok r _ out h2
    · cases h

theorem sBuild_ok {P : Program} {t : TypeId} {parts : List (Nat × SV)} {out : List SV} (h : sBuild P t parts = some out) : buildV P t (parts.map fun p => (p.1, p.2.den E)) = some (dens E out) := by
  unfold sBuild at h
  unfold buildV
  split at h
  · rename_i fs zs hu hz
    rw [hu, sZero_ok (E := E) hz]
    simp only
    split at h
    · rename_i pl hpl
      rw [hpl]
      have e : (nthL pl) = fun i => pl[i]? := funext fun i => nthL_eq pl i
      rw [e] at h
      exact sFill_ok parts zs out h
    · cases h
  · rename_i n e zs hu hz
    rw [hu, sZero_ok (E := E) hz]
    simp only
    split at h
    · rename_i i hi
      rw [hi]
      exact sFill_ok parts zs out h
    · cases h
  · cases h

theorem sElem_ok {P : Program} {e : TypeId} {sz by_ : Nat} {zs : List SV} (h : sElem P e = some (sz, by_, zs)) : elemOf P e = some (sz, by_, dens E zs) := by
  unfold sElem at h
  unfold elemOf
  split at h
  · rename_i inf hi
    rw [hi]
    simp only
    split at h
    · rename_i z hz
      rw [hz]
      simp only
      split at h
      · rename_i hc
        rw [if_pos hc]
        simp only [Option.some.injEq, Prod.mk.injEq] at h
        obtain ⟨rfl, rfl, rfl⟩ := h
        simp only [dens_eq, List.map_map]
        congr 3
        exact List.map_congr_left fun x _ => (den_sabsC E x).symm
      · cases h
    · cases h
  · cases h
theorem sElemT_ok {P : Program} {t : TypeId} {sz by_ : Nat} {zs : List SV} (h : sElemT P t = some (sz, by_, zs)) : ∃ e, P.underlying t = some (.slice e) ∧ elemOf P e = some (sz, by_, dens E zs) := by
  unfold sElemT at h
  split at h
  · rename_i e he
    exact ⟨e, he, sElem_ok h⟩
  · cases h

theorem sOk_den (n : Nat) (v : SV) : avOk n (v.den E) = sOk n v := by
  unfold avOk sOk
  rw [avCells_den]
  cases sCells v with
  | none => rfl
  | some cs =>
    simp only [Option.map_some, dens_length, nat_beq]
    cases h : decide (cs.length = n) <;> simp_all
theorem cellsOf_den (v : SV) : cellsOf (v.den E) = dens E (sCellsOf v) := by
  unfold cellsOf sCellsOf
  rw [avCells_den]
  cases sCells v <;> rfl
theorem sBsl_ok {d sz : Nat} {parts : List SV} {h : TH} {x : SV × SUps} (hs : sBsl d sz parts h = some x) : Ok2 E (bslV d sz (dens E parts) (denH E h)) x := by
  unfold sBsl at hs
  split at hs
  · rename_i hd
    obtain ⟨h1, h2⟩ := cond_some hs
    cases h2
    refine ⟨⟨denH_none hd, ?_⟩, ?_⟩
    · rw [dens_eq, List.all_map]
      have : (avOk sz ∘ SV.den E) = sOk sz := funext fun v => sOk_den sz v
      rw [this]; exact h1
    · have e : (dens E parts).map cellsOf = (parts.map sCellsOf).map (dens E) := by
        rw [dens_eq, List.map_map, List.map_map]
        exact List.map_congr_left fun v _ => cellsOf_den v
      simp only [bslV, SV.den, denU, List.map_cons, List.map_nil, SBlk.den, dens_length, e]
  · cases hs

theorem iLt_ok {n : Int} {m : Nat} (h : iLt n m = true) : 0 ≤ n ∧ n < m := by
  unfold iLt at h
  split at h
  · simp only [nat_blt, decide_eq_true_eq] at h
    exact ⟨Int.natCast_nonneg _, Int.ofNat_lt.2 h⟩
  · cases h

theorem sIdxOwn_ok {sz k off len : Nat} {tg : Bool} {n : Int} {kk : IntKind} {h : TH} {v : SV} (hs : sIdxOwn sz k off len n h = some v) : Ok E (aIdx none sz (.own k off len tg) (.t (.int kk n)) (denH E h)) v := by
  unfold sIdxOwn at hs
  split at hs
  · rename_i tag z es hk
    obtain ⟨h1, h2⟩ := cond_some hs
    cases h2
    simp only [Bool.and_eq_true, nat_beq, nat_blt, decide_eq_true_eq] at h1
    obtain ⟨⟨h1, h2⟩, h3⟩ := h1
    have := iLt_ok h1
    unfold aIdx
    simp only [denH_some hk, SBlk.den]
    exact ⟨⟨this.1, this.2, by simpa using h2, h3⟩, rfl⟩
  · cases hs

theorem sOptI_ok {d n : Int} {o : Option SV} (h : sOptI d o = some n) : optI d (o.map (SV.den E)) = some n := by
  unfold sOptI at h
  split at h
  · cases h; rfl
  · cases h; rfl
  · cases h

theorem sSlOwn_ok {sz k off len : Nat} {tg : Bool} {lo hi mx : Option SV} {h : TH} {v : SV} (hs : sSlOwn sz k off len tg lo hi mx h = some v) :
    Ok E (aSl sz (.own k off len tg) (lo.map (SV.den E)) (hi.map (SV.den E)) (mx.map (SV.den E)) (denH E h)) v := by
  unfold sSlOwn at hs
  split at hs
  · rename_i tag z es l u hk hl hu
    have hl' := sOptI_ok (E := E) hl
    have hu' := sOptI_ok (E := E) hu
    have hu0 : hi.isSome = true → optI 0 (hi.map (SV.den E)) = some u := fun hs => by
      cases hi with
      | none => cases hs
      | some x =>
        unfold sOptI at hu
        split at hu
        · rename_i e; cases e
        · rename_i e; cases e; cases hu; rfl
        · cases hu
    split at hs
    · simp only [Option.map_none]
      unfold aSl
      simp only
      unfold aSlice'
      simp only [denH_some hk, SBlk.den, hl', hu']
      split at hs
      · rename_i ht
        subst ht
        split at hs
        · rename_i hc
          cases hs
          simp only [if_true]
          exact ⟨hc, rfl⟩
        · cases hs
      · rename_i ht
        have : tg = false := by simpa using ht
        subst this
        split at hs
        · rename_i hc
          cases hs
          simp only [Bool.false_eq_true, if_false]
          exact ⟨by simpa using hc, rfl⟩
        · cases hs
    · rename_i kk m
      split at hs
      · rename_i hc
        cases hs
        obtain ⟨c1, c2, c3, c4, c5, c6⟩ := hc
        subst c3
        have h0 := hu0 c6
        simp only [Option.map_some, SV.den]
        unfold aSl
        simp only
        unfold aSlice'
        simp only [denH_some hk, SBlk.den, hl', hu', h0]
        refine ⟨⟨⟨c1, c2, Int.le_refl _, by simpa using c4, c5, by simpa using c6⟩, rfl⟩, ?_⟩
        simp only [SV.den, Option.getD_some]
      · cases hs
    · cases hs
  · cases hs

theorem sSlE_ok {sz : Nat} {lo hi mx : Option SV} {h : TH} {v : SV} (hs : sSlE lo hi mx = some v) :
    Ok E (aSl sz (.tsl []) (lo.map (SV.den E)) (hi.map (SV.den E)) (mx.map (SV.den E)) (denH E h)) v := by
  unfold sSlE at hs
  split at hs
  · rename_i l u hl hu
    obtain ⟨h1, h2⟩ := cond_some hs
    simp only [Bool.and_eq_true, iEq_eq, decide_eq_true_eq] at h1
    obtain ⟨rfl, rfl⟩ := h1
    have hl' := sOptI_ok (E := E) hl
    have hu' : optI (([] : List (List Tree)).length : Int) (hi.map (SV.den E)) = some 0 := sOptI_ok (E := E) hu
    have hu0 := sOptI_ok (E := E) hu
    split at h2
    · rename_i kk m
      obtain ⟨h3, h4⟩ := cond_some h2
      cases h4
      simp only [Bool.and_eq_true, iEq_eq, decide_eq_true_eq] at h3
      obtain ⟨rfl, h5⟩ := h3
      simp only [Option.map_some, SV.den]
      unfold aSl aSlice' aSliceT
      simp only [hl', hu', hu0]
      refine ⟨⟨⟨Int.le_refl _, Int.le_refl _, Int.le_refl _, by simp, by simp, by simpa using h5⟩, rfl⟩, ?_⟩
      simp [SV.den]
    · cases h2
  · cases hs

theorem sMake_ok {d by_ : Nat} {zs : List SV} {l c : SV} {h : TH} {x : SV × SUps} (hs : sMake d zs by_ l c h = some x) : Ok2 E (aMake d (dens E zs) by_ (l.den E) (c.den E) (denH E h)) x := by
  unfold sMake at hs
  split at hs
  · rename_i n m hd
    split at hs
    · rename_i hc
      cases hs
      obtain ⟨c1, c2, c3, c4, c5⟩ := hc
      refine ⟨⟨denH_none hd, c1, c2, c3, c4, fun e => ?_⟩, ?_⟩
      · have := congrArg List.length e; simp at this; rw [this] at c5; simp at c5
      · simp [aMake, SV.den, denU, SBlk.den]
    · cases hs
  · cases hs

theorem sSrc_ok {x : SV} {sz : Nat} {h : TH} {es : List (List SV)} (hs : sSrc x sz h = some es) : srcOf (sof (x.den E)) (denH E h) = some (es.map (dens E)) ∧ srcOk sz (sof (x.den E)) (denH E h) := by
  unfold sSrc at hs
  split at hs
  · cases hs; exact ⟨rfl, fun y hy => by simp at hy⟩
  · cases hs; exact ⟨rfl, fun y hy => by simp at hy⟩
  · rename_i k off len tg
    split at hs
    · rename_i tag z es' hk
      obtain ⟨h1, h2⟩ := cond_some hs
      cases h2
      simp only [Bool.and_eq_true, nat_beq, nat_ble, decide_eq_true_eq] at h1
      simp only [SV.den, sof, srcOf, srcOk, denH_some hk, SBlk.den]
      exact ⟨by simp, h1.1, by simpa using h1.2⟩
    · cases hs
  · cases hs

theorem flatAll_den {es : List (List SV)} (h : es.all (fun x => x.all sFlat) = true) : flatAll (es.map (dens E)) := by
  intro x hx a ha
  obtain ⟨y, hy, rfl⟩ := List.mem_map.1 hx
  have h1 := List.all_eq_true.1 h y hy
  rw [dens_eq] at ha
  obtain ⟨b, hb, rfl⟩ := List.mem_map.1 ha
  rw [flat_den]
  exact List.all_eq_true.1 h1 b hb

theorem sAppNew_ok {d sz by_ : Nat} {x s : SV} {h : TH} {r : SV × SUps} (hs : sAppNew d sz by_ x s h = some r) : Ok2 E (appNew d sz by_ (sof (x.den E)) (sof (s.den E)) (denH E h)) r := by
  unfold sAppNew at hs
  split at hs
  · rename_i old new h1 h2 hd
    split at hs
    · rename_i hc
      cases hs
      obtain ⟨e1, o1⟩ := sSrc_ok (E := E) h1
      obtain ⟨e2, o2⟩ := sSrc_ok (E := E) h2
      unfold appNew
      rw [e1, e2]
      refine ⟨⟨denH_none hd, o1, o2, ?_, by simpa using hc.2⟩, ?_⟩
      · rcases hc.1 with h | h
        · exact .inl (by simp [h])
        · exact .inr (by simpa using h)
      · simp [SV.den, denU, SBlk.den]
    · cases hs
  · cases hs

theorem sAppEnd_ok {d sz by_ k off len : Nat} {s : SV} {h : TH} {r : SV × SUps} (hs : sAppEnd d sz by_ k off len s h = some r) : Ok2 E (appEnd d sz by_ k off len (sof (s.den E)) (denH E h)) r := by
  unfold sAppEnd at hs
  split at hs
  · rename_i tag z es new hk h2 hd
    obtain ⟨hc, hx⟩ := cond_some hs
    cases hx
    simp only [Bool.and_eq_true, Bool.not_eq_true', nat_beq, nat_ble, decide_eq_true_eq] at hc
    obtain ⟨⟨⟨⟨c1, c2⟩, c3⟩, c4⟩, c5⟩ := hc
    obtain ⟨e2, o2⟩ := sSrc_ok (E := E) h2
    unfold appEnd
    simp only [denH_some hk, SBlk.den, e2]
    refine ⟨⟨by simpa using c1, denH_none hd, (fun e => by rw [e] at c2; cases c2), c3, o2, flatAll_den c4, by simpa using c5⟩, ?_⟩
    simp [SV.den, denU, SBlk.den]
  · cases hs

theorem sClear_ok {zs : List SV} {x : SV} {h : TH} {u : SUps} (hs : sClear zs x h = some u) : OkU E (aClear (dens E zs) (sof (x.den E)) (denH E h)) u := by
  unfold sClear at hs
  split at hs
  · cases hs; exact ⟨trivial, rfl⟩
  · cases hs; exact ⟨trivial, rfl⟩
  · rename_i k off len tg
    split at hs
    · rename_i z es hk
      split at hs
      · rename_i hc
        cases hs
        simp only [SV.den, sof, aClear, denH_some hk, SBlk.den]
        refine ⟨⟨by rw [dens_length]; exact hc.1, by simpa using hc.2.1, fun a ha => ?_⟩, ?_⟩
        · rw [dens_eq] at ha
          obtain ⟨b, hb, rfl⟩ := List.mem_map.1 ha
          rw [flat_den]
          exact List.all_eq_true.1 hc.2.2 b hb
        · simp [denU, SBlk.den]
      · cases hs
    · cases hs
  · cases hs

/-! maps -/
variable {X : Ctx} (hlo : X.lo ≤ E.n) (hhi : E.n ≤ X.hi)

theorem kd_den (k : SKey) : (k.den E).kd = k.kd := by cases k <;> rfl
include hlo hhi in
theorem sKeyEq_ok {x y : SKey} {r : Bool} (h : sKeyEq X.lo X.hi x y = some r) : r = decide (x.den E = y.den E) := by
  unfold sKeyEq at h
  split at h
  · rw [siEq_ok hlo hhi h]; simp [SKey.den]
  · cases h; simp [SKey.den]
  · split at h
    · rename_i p q hp hq
      cases h
      rw [siEq_ok hlo hhi hp, siEq_ok hlo hhi hq]
      simp [SKey.den, Bool.decide_and]
    · cases h
  · rename_i h1 h2 h3
    cases h
    cases x <;> cases y <;> first
      | (simp [SKey.den]; done)
      | (exfalso; exact h1 _ _ rfl rfl)
      | (exfalso; exact h2 _ _ rfl rfl)
      | (exfalso; exact h3 _ _ _ _ rfl rfl)

include hlo hhi in
theorem sGet_ok {k : SKey} : ∀ {es : SEnts} {q : Option SV}, sGet X.lo X.hi k es = some q → mget (k.den E) (denE E es) = q.map (SV.den E)
  | [], q, h => by cases h; rfl
  | x :: r, q, h => by
    unfold sGet at h
    simp only [denE, List.map_cons]
    unfold mget
    split at h
    · rename_i hk
      cases h
      have := sKeyEq_ok hlo hhi hk
      have he : x.1.den E = k.den E := by simpa using this.symm
      simp [he]
    · rename_i hk
      have := sKeyEq_ok hlo hhi hk
      have he : ¬ x.1.den E = k.den E := by simpa using this.symm
      simp only [he, if_false]
      exact sGet_ok h
    · cases h
include hlo hhi in
theorem sPut_ok {k : SKey} {v : SV} {c : Nat} : ∀ {es es' : SEnts}, sPut X.lo X.hi k v c es = some es' → mput (k.den E) (v.den E) c (denE E es) = denE E es'
  | [], es', h => by cases h; rfl
  | x :: r, es', h => by
    unfold sPut at h
    simp only [denE, List.map_cons]
    unfold mput
    split at h
    · rename_i hk
      cases h
      have := sKeyEq_ok hlo hhi hk
      have he : x.1.den E = k.den E := by simpa using this.symm
      simp [he]
    · rename_i hk
      have := sKeyEq_ok hlo hhi hk
      have he : ¬ x.1.den E = k.den E := by simpa using this.symm
      simp only [he, if_false]
      obtain ⟨r', hr, rfl⟩ := Option.map_eq_some_iff.1 h
      rw [List.map_cons]
      congr 1
      exact sPut_ok hr
    · cases h

theorem sKeyOf_ok {v : SV} {k : SKey} (h : sKeyOf v = some k) : keyOf (v.den E) = some (k.den E) := by
  unfold sKeyOf at h
  split at h
  · cases h; simp [SV.den, keyOf, SKey.den, SI.den, SI.a, SI.b]
  · cases h; simp [SV.den, keyOf, SKey.den, SI.den, SI.a, SI.b]
  · cases h; rfl
  · rename_i x y
    split at h
    · rename_i a b ha hb
      cases h
      simp only [SV.den, dens, sNum_ok (E := E) ha, sNum_ok (E := E) hb, keyOf, SKey.den]
    · cases h
  · cases h

theorem den_si (x : SI) : x.sv.den E = .t (.int .i64 (x.den E)) := by cases x <;> simp [SI.sv, SV.den, SI.den, SI.a, SI.b]
theorem den_key (k : SKey) : k.sv.den E = (k.den E).av := by cases k <;> simp [SKey.sv, SV.den, dens, den_si, SKey.den, MKey.av]
theorem den_lk (ok : Bool) (v : SV) (b : Bool) : (sLk ok v b).den E = lkRes ok (v.den E) b := by cases ok <;> rfl

theorem sCoerce_ok {ag : Bool} {ks : List Kd} {v : SV} (h : sCoerce ag ks v = true) : (coerce ag ks (v.den E)).dom ∧ (coerce ag ks (v.den E)).val = v.den E := by
  have key : (coerce ag ks (v.den E)).dom := by
    unfold sCoerce at h
    split at h
    · split at h
      · rename_i l
        have hlen : ∀ (ks : List Kd) (l : List SV), sCsts ks l = true → ks.length = l.length := by
          intro ks
          induction ks with
          | nil => intro l h; cases l with
            | nil => rfl
            | cons a r => simp [sCsts] at h
          | cons k ks ih => intro l h; cases l with
            | nil => simp [sCsts] at h
            | cons a r => simp only [sCsts, Bool.and_eq_true] at h; simp [ih r h.2]
        have hl := hlen ks l h
        refine ⟨trivial, by simp [aggL, SV.den, hl], ?_⟩
        have := sCsts_ok (E := E) l ks 0 (by rw [List.drop_zero, hl, List.take_length]; exact h)
        rcases this with h | h
        · exact h.2
        · exact h.2
      · cases h
    · exact sCst_ok h
    · cases h
  exact ⟨key, coerce_ok key⟩

include hlo hhi in
theorem sLookup_ok {ok : Bool} {kd : Nat} {ag : Bool} {ks : List Kd} {zero m k v : SV} {h : TH} (hs : sLookup X.lo X.hi ok kd ag ks zero m k h = some v) :
    Ok E (aLookupK ok kd ag ks (zero.den E) (m.den E) (k.den E) (denH E h)) v := by
  unfold sLookup at hs
  split at hs
  · rename_i key hkey
    unfold aLookupK
    rw [sKeyOf_ok hkey]
    simp only
    split at hs
    · rename_i hkd
      have hkd' : (key.den E).kd = kd := by rw [kd_den]; exact hkd
      split at hs
      · cases hs
        exact ⟨hkd', (den_lk ok zero false).symm⟩
      · rename_i r
        split at hs
        · rename_i kd' es c hr
          split at hs
          · rename_i hkk
            split at hs
            · rename_i q hq
              split at hs
              · rename_i hc
                cases hs
                have hg := sGet_ok hlo hhi hq
                have hco := sCoerce_ok (E := E) hc
                have e1 : ((q.map (SV.den E)).getD (zero.den E)) = (q.getD zero).den E := by cases q <;> rfl
                have e2 : (q.map (SV.den E)).isSome = q.isSome := by cases q <;> rfl
                simp only [SV.den, denH_some hr, SBlk.den, hg, e1, e2]
                exact ⟨⟨⟨hkd', hkk⟩, hco.1⟩, by rw [hco.2, den_lk]⟩
              · cases hs
            · cases hs
          · cases hs
        · cases hs
      · cases hs
    · cases hs
  · cases hs

include hlo hhi in
theorem sMapUpd_ok {kd : Nat} {m k v : SV} {h : TH} {u : SUps} (hs : sMapUpd X.lo X.hi kd m k v h = some u) : OkU E (aMapUpd kd (m.den E) (k.den E) (v.den E) (denH E h)) u := by
  unfold sMapUpd at hs
  split at hs
  · rename_i key r hkey
    split at hs
    · rename_i kd' es c hr
      split at hs
      · rename_i hkd
        split at hs
        · rename_i q es' hq hp
          cases hs
          have hg := sGet_ok hlo hhi hq
          have hp' := sPut_ok hlo hhi hp
          have e2 : (q.map (SV.den E)).isSome = q.isSome := by cases q <;> rfl
          unfold aMapUpd
          simp only [sKeyOf_ok hkey, SV.den, denH_some hr, SBlk.den, hg, e2]
          refine ⟨⟨by rw [kd_den]; exact hkd.1, hkd.2⟩, ?_⟩
          simp [denU, SBlk.den, hp', hkd.2]
        · cases hs
      · cases hs
    · cases hs
  · cases hs

theorem sMapTy_ok {P : Program} {t : TypeId} {kd : Nat} {z : Option SV} (h : sMapTy P t = some (kd, z)) : mapTy P t = some (kd, z.map (SV.den E)) := by
  unfold sMapTy at h
  unfold mapTy
  split at h
  · rename_i k e hu
    rw [hu]
    simp only
    split at h
    · rename_i kd' hk
      rw [hk]
      simp only [Option.some.injEq, Prod.mk.injEq] at h
      obtain ⟨rfl, rfl⟩ := h
      simp only [Option.map_map]
      congr 3
      funext v
      exact (den_sabsV E v).symm
    · cases h
  · cases h

end

end Go.Dm
