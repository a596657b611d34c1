/-
  Every operation of the machine that can be run.
  Conditions: none.
-/
import Derived.Test.YtbhlfbkheijojaaEv5
namespace Go.Dm

section
variable {X : Ctx} {E : Env} (hlo : X.lo ≤ E.n) (hhi : E.n ≤ X.hi)

theorem map_den_opt (E : Env) (ts : Sl) (o : Option Operand) : o.map (fun x => (sEv ts x).den E) = (o.map (sEv ts)).map (SV.den E) := by cases o <;> rfl
theorem map_den_list (E : Env) (ts : Sl) (l : List Operand) : l.map (fun x => (sEv ts x).den E) = dens E (l.map (sEv ts)) := by rw [dens_eq, List.map_map]; rfl
theorem map_sof_list (E : Env) (ts : Sl) (l : List Operand) : l.map (fun x => sof ((sEv ts x).den E)) = (l.map (sEv ts)).map (fun v => sof (v.den E)) := by rw [List.map_map]; rfl
theorem map_den_parts (E : Env) (ts : Sl) (l : List (Nat × Operand)) : l.map (fun p => (p.1, (sEv ts p.2).den E)) = (l.map (fun p => (p.1, sEv ts p.2))).map fun p => (p.1, p.2.den E) := by rw [List.map_map]; rfl
theorem map_den_parts2 (E : Env) (ts : Sl) (l : List (Nat × Operand)) : l.map (fun p => (sEv ts p.2).den E) = dens E (l.map (fun p => sEv ts p.2)) := by rw [dens_eq, List.map_map]; rfl

theorem Ok2.pure {v : SV} : Ok2 E ⟨True, (v.den E, [])⟩ (v, []) := ⟨trivial, rfl⟩

theorem sBuiltin_ok {d : Nat} {b : Builtin} {ts : List TypeId} {args : List SV} {h : TH} {x : SV × SUps} (hs : sBuiltin X d b ts args h = some x) :
    Ok2 E (semBuiltin X.P d b ts (args.map fun v => sof (v.den E)) (denH E h)) x := by
  unfold sBuiltin at hs
  split at hs
  · rename_i t v
    obtain ⟨h1, h2⟩ := cond_some hs
    simp only [List.map_cons, List.map_nil, semBuiltin]
    unfold lenTy at h1
    split at h1
    · rename_i hu; rw [hu]; exact Ok.lift (fun v hv => by cases hv; exact ⟨trivial, rfl⟩) h2
    · rename_i hu; rw [hu]; exact Ok.lift (fun v hv => by cases hv; exact ⟨trivial, rfl⟩) h2
    · rename_i hu; rw [hu]
      refine Ok.lift (fun v hv => ?_) h2
      unfold sLen at hv
      simp only at hv
      split at hv
      · rename_i hk
        cases hv
        simp only [SV.den, sof, aLen, denH_some hk, SBlk.den]
        exact ⟨trivial, rfl⟩
      · cases hv
    · rename_i hu; rw [hu]; exact Ok.lift (fun v hv => by cases hv; exact ⟨trivial, rfl⟩) h2
    · rename_i hu; rw [hu]; exact Ok.lift (fun v hv => by cases hv; exact ⟨trivial, rfl⟩) h2
    · rename_i hu; rw [hu]
      refine Ok.lift (fun v hv => ?_) h2
      unfold sLen at hv
      simp only at hv
      split at hv
      · rename_i hk
        cases hv
        simp only [SV.den, sof, aLenM, denH_some hk, SBlk.den]
        exact ⟨trivial, by simp [denE, SV.den]⟩
      · cases hv
    · cases h1
  · rename_i t u v s
    simp only [List.map_cons, List.map_nil, semBuiltin]
    unfold xAppend at hs
    split at hs
    · rename_i sz by_ zs e' he hu
      obtain ⟨e, h1, h2⟩ := sElemT_ok (E := E) he
      rw [h1, hu]
      simp only [h2]
      split at hs
      · exact sAppEnd_ok hs
      · exact sAppNew_ok hs
      · exact sAppNew_ok hs
      · exact sAppNew_ok hs
      · cases hs
    · cases hs
  · rename_i t u v s
    simp only [List.map_cons, List.map_nil, semBuiltin]
    refine Ok.lift (fun r hr => ?_) hs
    unfold sMM at hr
    split at hr
    · cases hr; exact ⟨trivial, rfl⟩
    · cases hr
  · rename_i t u v s
    simp only [List.map_cons, List.map_nil, semBuiltin]
    refine Ok.lift (fun r hr => ?_) hs
    unfold sMM at hr
    split at hr
    · cases hr; exact ⟨trivial, rfl⟩
    · cases hr
  · rename_i t v
    simp only [List.map_cons, List.map_nil, semBuiltin]
    split at hs
    · rename_i sz by_ zs he
      obtain ⟨e, h1, h2⟩ := sElemT_ok (E := E) he
      rw [h1]
      simp only [h2]
      exact OkU.lift (fun u hu => sClear_ok hu) hs
    · cases hs
  · cases hs

include hlo hhi in
theorem sOp_ok {d : Nat} {ts : Sl} {o : Op} {h : TH} {x : SV × SUps} (hs : sOp X d ts o h = some x) : Ok2 E (semOp X.P d (evO (dts E ts)) o (denH E h)) x := by
  have hev : evO (dts E ts) = fun x => (sEv ts x).den E := funext (evO_den E ts)
  rw [hev]
  cases o with
  | move y => cases hs; exact ⟨trivial, rfl⟩
  | assign y => cases hs; exact ⟨trivial, rfl⟩
  | pick c a b => exact Ok.lift (fun v hv => sPick_ok hv) hs
  | alloc t =>
    simp only [sOp, xAlloc] at hs
    simp only [semOp]
    split at hs
    · rename_i zs hz
      rw [sZero_ok (E := E) hz]
      exact sNewVar_ok hs
    · cases hs
  | box t y =>
    simp only [sOp, xBox] at hs
    simp only [semOp]
    split at hs
    · rename_i cs hc
      rw [avCells_den, hc]
      exact sNewVar_ok hs
    · cases hs
  | build t parts =>
    simp only [sOp, xBuild] at hs
    simp only [semOp]
    split at hs
    · rename_i cs hc
      cases hs
      rw [map_den_parts, sBuild_ok hc]
      exact ⟨trivial, rfl⟩
    · cases hs
  | buildSlice t len parts =>
    simp only [sOp, xBsl] at hs
    simp only [semOp]
    split at hs
    · rename_i sz by_ zs he
      obtain ⟨e, h1, h2⟩ := sElemT_ok (E := E) he
      rw [h1]
      simp only [h2]
      split at hs
      · rename_i hc
        rw [if_pos hc, map_den_parts2]
        exact sBsl_ok hs
      · cases hs
    · cases hs
  | load t p =>
    simp only [sOp] at hs
    simp only [semOp]
    cases ht : tyOf X.P t with
    | none => simp [xLoad, ht, up] at hs
    | some q =>
      obtain ⟨ag, n⟩ := q
      simp only
      refine Ok.lift (fun v hv => ?_) hs
      unfold xLoad at hv
      rw [ht] at hv
      split at hv
      · rename_i e1 e2
        simp only [Option.some.injEq, Prod.mk.injEq] at e1
        obtain ⟨rfl, rfl⟩ := e1
        rw [e2]
        exact sLoad_ok hv (kindsOf_ne (by omega))
      · cases hv
  | store t p y =>
    simp only [sOp] at hs
    simp only [semOp]
    cases ht : (X.P.info? t).map (·.size) with
    | none => simp [xStore, ht, upU] at hs
    | some n =>
      simp only
      refine OkU.lift (fun u hu => ?_) hs
      unfold xStore at hu
      rw [ht] at hu
      split at hu
      · rename_i e1 e2
        cases e1
        rw [e2]
        exact sStore_ok hu
      · cases hu
  | nilCheck y =>
    simp only [sOp] at hs
    simp only [semOp]
    refine Ok.lift (fun v hv => ?_) hs
    unfold xNil at hv
    split at hv
    · rename_i e; cases hv; rw [e]; exact ⟨trivial, rfl⟩
    · rename_i e; cases hv; rw [e]; exact ⟨trivial, rfl⟩
    · cases hv
  | binOp op t y z yt => exact sBinOp_ok hlo hhi hs
  | unOp op t y => exact Ok.lift (fun v hv => sUnL_ok hlo hhi hv) hs
  | convert src dst y =>
    simp only [sOp] at hs
    simp only [semOp]
    unfold xConvert at hs
    cases h1 : X.P.underlying src with
    | none => rw [h1] at hs; simp [up] at hs
    | some s =>
      rw [h1] at hs
      cases h2 : X.P.underlying dst with
      | none => rw [h2] at hs; simp [up] at hs
      | some dd =>
        rw [h2] at hs
        cases dd with
        | int k => exact Ok.lift (fun v hv => sConvI_ok hlo hhi hv) hs
        | _ => simp [up] at hs
  | makeFunc fn first captured =>
    cases fn with
    | func f =>
      cases hs
      simp only [semOp]
      refine ⟨trivial, ?_⟩
      simp only [SV.den, map_den_list]
      rfl
    | _ => cases hs
  | makeMap t r =>
    cases r with
    | some r => cases hs
    | none =>
      simp only [sOp, xMakeMap] at hs
      simp only [semOp]
      split at hs
      · rename_i kd z hm hd
        cases hs
        rw [sMapTy_ok (E := E) hm]
        exact ⟨denH_none hd, rfl⟩
      · cases hs
  | makeSlice t l c =>
    simp only [sOp, xMake] at hs
    simp only [semOp]
    split at hs
    · rename_i sz by_ zs he
      obtain ⟨e, h1, h2⟩ := sElemT_ok (E := E) he
      rw [h1]
      simp only [h2]
      exact sMake_ok hs
    · cases hs
  | slice t y lo hi mx =>
    simp only [sOp] at hs
    simp only [semOp, map_den_opt]
    unfold xSlice at hs
    cases h1 : X.P.underlying t with
    | none => rw [h1] at hs; simp [up] at hs
    | some dd =>
      rw [h1] at hs
      cases dd with
      | slice e =>
        simp only at hs ⊢
        cases h2 : X.P.info? e with
        | none => rw [h2] at hs; simp [up] at hs
        | some inf =>
          rw [h2] at hs
          simp only at hs ⊢
          refine Ok.lift (fun v hv => ?_) hs
          split at hv
          · rename_i e; rw [e]; exact sSlOwn_ok hv
          · rename_i e; rw [e]; exact sSlE_ok hv
          · rename_i e; rw [e]; exact sSlE_ok hv
          · cases hv
      | _ => simp [up] at hs
  | fieldAddr s y f =>
    simp only [sOp] at hs
    simp only [semOp]
    unfold xField fieldOff at hs
    cases h1 : X.P.underlying s with
    | none => rw [h1] at hs; simp [up] at hs
    | some dd =>
      rw [h1] at hs
      cases dd with
      | struct fs =>
        simp only at hs ⊢
        cases h2 : fs[f]? with
        | none => rw [h2] at hs; simp [up] at hs
        | some fd =>
          rw [h2] at hs
          simp only at hs ⊢
          cases h3 : (X.P.info? fd.type).map (·.size) with
          | none => rw [h3] at hs; simp [up] at hs
          | some n =>
            rw [h3] at hs
            cases n with
            | zero => simp [up] at hs
            | succ n =>
              simp only at hs ⊢
              refine Ok.lift (fun v hv => ?_) hs
              split at hv
              · rename_i off k e o e1 e2
                cases e1
                cases hv
                rw [e2]
                exact ⟨trivial, rfl⟩
              · cases hv
      | _ => simp [up] at hs
  | indexAddr t y i =>
    simp only [sOp] at hs
    simp only [semOp]
    unfold xIdx at hs
    cases h1 : X.P.underlying t with
    | none => rw [h1] at hs; simp [up] at hs
    | some dd =>
      rw [h1] at hs
      cases dd with
      | slice e =>
        simp only at hs ⊢
        cases h2 : (X.P.info? e).map (·.size) with
        | none => rw [h2] at hs; simp [up] at hs
        | some sz =>
          rw [h2] at hs
          simp only at hs ⊢
          refine Ok.lift (fun v hv => ?_) hs
          unfold xIdxS at hv
          split at hv
          · rename_i e2 e3
            rw [e2, e3]
            exact sIdxOwn_ok hv
          · cases hv
      | array m e =>
        simp only at hs ⊢
        cases h2 : (X.P.info? e).map (·.size) with
        | none => rw [h2] at hs; simp [up] at hs
        | some sz =>
          rw [h2] at hs
          simp only at hs ⊢
          refine Ok.lift (fun v hv => ?_) hs
          unfold xIdxA at hv
          split at hv
          · rename_i k el o kk n e2 e3
            obtain ⟨h3, h4⟩ := cond_some hv
            cases h4
            rw [e2, e3]
            exact ⟨iLt_ok h3, rfl⟩
          · cases hv
      | _ => simp [up] at hs
  | index t y i =>
    simp only [sOp] at hs
    simp only [semOp]
    unfold xIndex at hs
    cases h1 : X.P.underlying t with
    | none => rw [h1] at hs; simp [up] at hs
    | some dd =>
      rw [h1] at hs
      cases dd with
      | string =>
        simp only
        refine Ok.lift (fun v hv => ?_) hs
        simp only at hv
        split at hv
        · rename_i s k n e1 e2
          obtain ⟨h3, h4⟩ := cond_some hv
          cases h4
          rw [e1, e2]
          exact ⟨iLt_ok h3, rfl⟩
        · cases hv
      | array n e =>
        simp only at hs ⊢
        cases h2 : tyOf X.P e with
        | none => rw [h2] at hs; simp [up] at hs
        | some q =>
          rw [h2] at hs
          obtain ⟨ag, sz⟩ := q
          cases ag with
          | true => simp [up] at hs
          | false =>
            by_cases hsz : sz = 1
            · subst hsz
              simp only at hs ⊢
              refine Ok.lift (fun v hv => ?_) hs
              split at hv
              · rename_i xs kk j e0 e1 e2
                obtain ⟨h3, h4⟩ := cond_some hv
                simp only [Bool.and_eq_true] at h3
                have l1 := iLt_ok h3.1
                have l2 := iLt_ok h3.2
                rw [nthL_eq] at h4
                rw [e1, e2]
                refine ⟨⟨l1.1, l1.2, by rw [dens_length]; exact l2.2⟩, ?_⟩
                simp only [SV.den, aArrIdx]
                rw [List.getD_eq_getElem?_getD, dens_get, h4]
                rfl
              · cases hv
            · exfalso
              revert hs
              split
              · rename_i e1 e2 e3; simp only [Option.some.injEq, Prod.mk.injEq, true_and] at e1; exact absurd e1 hsz
              · simp [up]
      | _ => exfalso; revert hs; simp [up]
  | lookup t m k ok =>
    simp only [sOp] at hs
    simp only [semOp]
    unfold xLookup at hs
    cases h1 : sMapTy X.P t with
    | none => rw [h1] at hs; simp [up] at hs
    | some q =>
      obtain ⟨kd, z⟩ := q
      rw [h1] at hs
      rw [sMapTy_ok (E := E) h1]
      cases z with
      | none => simp [up] at hs
      | some z =>
        simp only [Option.map_some] at hs ⊢
        exact Ok.lift (fun v hv => sLookup_ok hlo hhi hv) hs
  | mapUpdate t m k y =>
    simp only [sOp] at hs
    simp only [semOp]
    unfold xMapUpd at hs
    cases h1 : sMapTy X.P t with
    | none => rw [h1] at hs; simp [upU] at hs
    | some q =>
      obtain ⟨kd, z⟩ := q
      rw [h1] at hs
      rw [sMapTy_ok (E := E) h1]
      exact OkU.lift (fun u hu => sMapUpd_ok hlo hhi hu) hs
  | insert t m k y =>
    simp only [sOp] at hs
    simp only [semOp]
    unfold xMapUpd at hs
    cases h1 : sMapTy X.P t with
    | none => rw [h1] at hs; simp [upU] at hs
    | some q =>
      obtain ⟨kd, z⟩ := q
      rw [h1] at hs
      rw [sMapTy_ok (E := E) h1]
      exact OkU.lift (fun u hu => sMapUpd_ok hlo hhi hu) hs
  | extract y i =>
    simp only [sOp] at hs
    simp only [semOp]
    refine Ok.lift (fun v hv => ?_) hs
    unfold xExtract at hv
    split at hv
    · rename_i vs e
      rw [nthL_eq] at hv
      rw [e]
      have hlt := (List.getElem?_eq_some_iff.1 hv).1
      refine ⟨by rw [SV.den]; simpa [aExtract] using hlt, ?_⟩
      simp only [SV.den, aExtract]
      rw [List.getD_eq_getElem?_getD, dens_get, hv]
      rfl
    · cases hv
  | call c =>
    obtain ⟨callee, args, tys⟩ := c
    cases callee with
    | builtin b =>
      simp only [sOp] at hs
      simp only [semOp]
      rw [map_sof_list]
      exact sBuiltin_ok hs
    | value f => cases hs
    | invoke r m => cases hs
  | _ => cases hs

/-- what may be, in several ways -/
def OkN (E : Env) (r : PV (List (AV × Ups))) (l : List (SV × SUps)) : Prop := r.dom ∧ r.val = l.map fun x => (x.1.den E, denU E x.2)

theorem sNx_ok {d : Nat} {ts : Sl} {o : Op} {h : TH} {l : List (SV × SUps)} (hs : sNx X.P d ts o h = some l) :
    ∃ r, nxOf X.P d (evO (dts E ts)) o (denH E h) = some r ∧ OkN E r l := by
  have hev : evO (dts E ts) = fun x => (sEv ts x).den E := funext (evO_den E ts)
  rw [hev]
  unfold sNx at hs
  split at hs
  · rename_i t y
    unfold nxRange at hs
    simp only [nxOf]
    split at hs
    · rename_i e1 e2 k hu hk hd
      rw [hu, hk]
      simp only [SV.den]
      split at hs
      · rename_i kd es c hkk
        cases hs
        rw [denH_some hkk]
        exact ⟨_, rfl, denH_none hd, by simp [SV.den, denU, SBlk.den]⟩
      · cases hs
    · rename_i e1 e2 hu hk hd
      rw [hu, hk]
      cases hs
      exact ⟨_, rfl, denH_none hd, by simp [SV.den, denU, SBlk.den]⟩
    · cases hs
  · rename_i y
    split at hs
    · rename_i i hi
      simp only [nxOf, hi, SV.den]
      unfold nxNext at hs
      split at hs
      · rename_i s0 sn l0 hii
        cases hs
        rw [denH_some hii]
        exact ⟨_, rfl, trivial, by simp [SV.den, dens, denU, bv]⟩
      · rename_i k since seen last hii
        rw [denH_some hii]
        simp only [SBlk.den, SV.den]
        split at hs
        · rename_i kd es c hk
          rw [denH_some hk]
          simp only [SBlk.den]
          split at hs
          · rename_i hc
            cases hs
            refine ⟨_, rfl, ⟨?_, hc.2⟩, ?_⟩
            · have := hc.1
              simp only [denE, List.all_map]
              exact this
            · have hl : leftL (denE E es) seen = (es.filter fun e => !seen.contains e.2.2).map fun x => (x.1.den E, x.2.1.den E, x.2.2) := by
                unfold leftL denE
                rw [List.filter_map]
                rfl
              simp only [hl]
              cases hf : es.filter fun e => !seen.contains e.2.2 with
              | nil => simp [SV.den, dens, denU, bv]
              | cons a r => simp [SV.den, dens, denU, SBlk.den, bv, den_key]
          · cases hs
        · cases hs
      · cases hs
    · cases hs
  · rename_i y
    split at hs
    · rename_i i hi
      simp only [nxOf, hi, SV.den]
      unfold nxEntry at hs
      split at hs
      · rename_i k since seen last hii
        rw [denH_some hii]
        simp only [SBlk.den, SV.den]
        split at hs
        · rename_i kd es c s hk hseen
          rw [denH_some hk, hseen]
          simp only [SBlk.den]
          split at hs
          · rename_i e he
            have hf : (denE E es).find? (fun e => e.2.2 == s) = some (e.1.den E, e.2.1.den E, e.2.2) := by
              unfold denE
              rw [List.find?_map]
              have : ((fun e : MKey × AV × Nat => e.2.2 == s) ∘ fun x : SKey × SV × Nat => (x.1.den E, x.2.1.den E, x.2.2)) = fun e => e.2.2 == s := rfl
              rw [this, he]
              rfl
            rw [hf]
            simp only
            split at hs
            · rename_i hc
              cases hs
              exact ⟨_, rfl, hc, by simp [SV.den, dens, denU, den_key]⟩
            · cases hs
          · cases hs
        · cases hs
      · cases hs
    · cases hs
  · cases hs

end

end Go.Dm
