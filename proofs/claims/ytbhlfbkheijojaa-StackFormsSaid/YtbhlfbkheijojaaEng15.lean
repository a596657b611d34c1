/-
  Every operation without a call: the abstract machine's step is the model's.
  Conditions: none.
-/
import Derived.Test.YtbhlfbkheijojaaEng14
namespace Go.Dm

theorem info_size {P : Program} {e : TypeId} {n : Nat} (h : (P.info? e).map (·.size) = some n) (w : World) : (sizeOf e).run P w = .ok n w := by
  obtain ⟨i, hi, hs⟩ := Option.map_eq_some_iff.1 h
  simp [sizeOf, typeInfo, hi, hs]

theorem nilCmp_sound {P : Program} {ρ : Inj} {F : Fz} {w : World} {op : BinOp} {t : TypeId} {x y : Operand} {a : Act} {X : AV} (hn : nilCmp P op t y X = true) (hx : AR ρ F w (a.eval x) X) :
    ∃ b, (do eqGuard op t x y (a.eval x) (a.eval y); binOp op t (a.eval x) (a.eval y) : Sem Value).run P w = .ok (.bool b) w ∧ AR ρ F w (.bool b) (nilRes op X) := by
  have sl : ∃ p l c, a.eval x = .slice p l c ∧ (p = none → isEm X = true) ∧ (isNils X = true → p = none) := by
    generalize a.eval x = V at hx
    unfold nilCmp at hn
    split at hn
    all_goals first
      | (cases hx with | t h => cases h <;> exact ⟨_, _, _, rfl, by simp [isEm], by simp [isNils]⟩)
      | (cases hx with | tsl h => cases h <;> exact ⟨_, _, _, rfl, by simp [isEm], by simp [isNils]⟩)
      | (cases hx with | nils => exact ⟨_, _, _, rfl, by simp [isEm], by simp [isNils]⟩)
      | (cases hx <;> refine ⟨_, _, _, rfl, ?_⟩ <;> simp_all [isEm, isNils] <;> (intro h; subst h; simp_all))
      | (exact absurd hn (by simp))
  obtain ⟨p, l, c, hV, hem, hni⟩ := sl
  have hy : y = .const (.slice none 0 0) ∧ (op = .eql ∨ op = .neq) ∧ ∃ e, P.underlying t = some (.slice e) := by
    unfold nilCmp at hn
    split at hn <;> first | exact ⟨rfl, .inl rfl, _, by assumption⟩ | exact ⟨rfl, .inr rfl, _, by assumption⟩ | (exact absurd hn (by simp))
  obtain ⟨rfl, hop, e, hu⟩ := hy
  rw [hV]
  have hu' := run_underlying hu w
  have heq : ∃ b, (Op.equal t (.slice p l c) (.slice none 0 0)).run P w = .ok b w ∧ (b = true → isEm X = true) ∧ (b = false → isNils X = false) := by
    cases p with
    | none => exact ⟨true, by rw [equal_eq, Op.equalIn]; simp [hu'], fun _ => hem rfl, by simp⟩
    | some p => exact ⟨false, by rw [equal_eq, Op.equalIn]; simp [hu'], by simp, fun _ => by
        cases hX : isNils X with
        | false => rfl
        | true => cases hni hX⟩
  obtain ⟨b, hb, he, hf⟩ := heq
  rcases hop with rfl | rfl
  · have g : eqGuard .eql t x (.const (.slice none 0 0)) (.slice p l c) (a.eval (.const (.slice none 0 0))) = pure () := rfl
    have k : binOp .eql t (.slice p l c) (a.eval (.const (.slice none 0 0))) = (do pure (.bool (← Op.equal t (.slice p l c) (.slice none 0 0)))) := rfl
    exact ⟨b, by rw [g, k]; simp [hb], .bq b he (fun h => by simp [hf h])⟩
  · have g : eqGuard .neq t x (.const (.slice none 0 0)) (.slice p l c) (a.eval (.const (.slice none 0 0))) = pure () := rfl
    have k : binOp .neq t (.slice p l c) (a.eval (.const (.slice none 0 0))) = (do pure (.bool (!(← Op.equal t (.slice p l c) (.slice none 0 0))))) := rfl
    exact ⟨!b, by rw [g, k]; simp [hb], .bq _ (fun h => by simp [hf (by simpa using h)]) (fun h => he (by simpa using h))⟩

section
variable {P : Program} {ρ : Inj} {F : Fz} {w : World} {σ : Heap} {a : Act} {ts : List AV} (hv : ValsAR ρ F w a.tmps ts) (hh : HR ρ F w σ)
include hv hh

theorem sem_sound {o : Oper} {d : Nat} (hd : (semOp P d (evO ts) o.op σ).dom) :
    ∃ v w' ρ' F', Ends P a o w v w' ∧ AR ρ' F' w' v (semOp P d (evO ts) o.op σ).val.1 ∧ Stp ρ F w ρ' F' w' (updAll σ (semOp P d (evO ts) o.op σ).val.2) := by
  cases ho : o.op with
  | move x => exact stay hh (v := a.eval x) (by simp [execOp, ho]) (AR.evO hv x)
  | assign x => exact stay hh (v := a.eval x) (by simp [execOp, ho]) (AR.evO hv x)
  | pick c x y =>
    rw [ho] at hd
    obtain ⟨v, h1, h2⟩ := aPick_sound (P := P) (AR.evO hv c) (AR.evO hv x) (AR.evO hv y) hd
    exact ⟨v, w, ρ, F, .inl (by simp only [execOp, ho]; exact h1), h2, Stp.refl hh⟩
  | alloc t =>
    rw [ho] at hd
    simp only [semOp] at hd ⊢
    split at hd
    · rename_i zs hz
      exact mem1 (S := Instr.alloc t true (.tuple #[])) (by simp [execOp, ho]) (alloc_sound hh hz hd)
    · exact hd.elim
  | box t x =>
    rw [ho] at hd
    simp only [semOp] at hd ⊢
    split at hd
    · rename_i cs hc
      exact mem1 (S := Instr.box t (a.eval x)) (by simp [execOp, ho]) (box_sound hh (AR.evO hv x) hc hd)
    · exact hd.elim
  | build t parts =>
    rw [ho] at hd
    simp only [semOp] at hd ⊢
    split at hd
    · rename_i cs hc
      obtain ⟨v, h1, h2⟩ := build_sound (P := P) (w := w) (ρ := ρ) (F := F) (vs := parts.map fun (i, x) => (i, a.eval x)) (by simp) (partsEv hv) hc
      exact stay hh (v := v) (by simp only [execOp, ho]; simp [h1]) h2
    · exact hd.elim
  | buildSlice t len parts =>
    rw [ho] at hd
    simp only [semOp] at hd ⊢
    split at hd
    · rename_i e hu
      split at hd
      · rename_i sz by_ zs hel
        split at hd
        · rename_i hp
          rw [if_pos hp]
          obtain ⟨inf, z, g1, g2, g3, g4, rfl, rfl, rfl⟩ := elemOf_ok hel
          have hlen : parts.toList.length = len := by have := congrArg List.length hp.1; simpa using this
          refine mem1 (S := Instr.buildSlice t len (parts.map fun (i, x) => (i, a.eval x))) (by simp [execOp, ho]) (bsl_sound hh hu ⟨inf, z, g1, rfl, g2⟩ (by simpa using hlen) hp.2 (by simp) (fun i x y h1 h2 => ?_) hd)
          simp only [Array.getElem?_map, Option.map_eq_some_iff] at h1
          obtain ⟨⟨n, q⟩, hq, rfl⟩ := h1
          simp only [List.getElem?_map, Array.getElem?_toList, hq, Option.map_some, Option.some.injEq] at h2
          subst h2
          refine ⟨?_, AR.evO hv q⟩
          have h3 := congrArg (fun l : List Nat => l[i]?) hp.1
          simp only [List.getElem?_map, Array.getElem?_toList, hq, Option.map_some] at h3
          have hi : i < len := by have := lt_of_get (show parts.toList[i]? = some (n, q) by simpa using hq); omega
          rw [List.getElem?_range hi] at h3
          exact Option.some.inj h3
        · exact hd.elim
      · exact hd.elim
    · exact hd.elim
  | load t p =>
    rw [ho] at hd
    simp only [semOp] at hd ⊢
    split at hd
    · rename_i ag n ht
      exact pure1 hh (S := Instr.loadAt t (a.eval p)) (by simp [execOp, ho]) (by
        have hk := aLoadK_ok hd
        rw [kindsOf_len] at hk
        show ∃ v, _ ∧ AR ρ F w v (aLoadK ag (kindsOf P t n) (evO ts p) σ).val
        rw [← hk.2]
        exact aLoad_sound (P := P) hh ht (AR.evO hv p) hk.1)
    · exact hd.elim
  | store t p x =>
    rw [ho] at hd
    simp only [semOp] at hd ⊢
    split at hd
    · rename_i n ht
      exact wr1 (S := Instr.storeAt t (a.eval p) (a.eval x)) (by simp [execOp, ho]) (aStore_sound (P := P) hh ht (AR.evO hv p) (AR.evO hv x) hd)
    · exact hd.elim
  | nilCheck x =>
    rw [ho] at hd
    have hx := AR.evO hv x
    simp only [semOp, lift] at hd ⊢
    have run : (∃ ad, a.eval x = .pointer (some ad)) ∨ (∃ f c1 c2, a.eval x = .func (.func f) c1 c2) → (execOp a.eval o).run P w = .ok (.value (a.eval x)) w := fun h => by
      rcases h with ⟨ad, h⟩ | ⟨f, c1, c2, h⟩ <;> simp [execOp, ho, h]
    generalize evO ts x = y at hd hx
    generalize hX : a.eval x = X at hx run
    unfold aNil at hd ⊢
    split at hd
    · refine stay hh (v := X) (run (.inl ?_)) hx
      cases hx with
      | ptr h => exact ⟨_, rfl⟩
      | ptrDead ad h => exact ⟨_, rfl⟩
    · refine stay hh (v := X) (run (.inl ?_)) hx
      cases hx with
      | eptr vals hb h1 h2 => exact ⟨_, rfl⟩
    · refine stay hh (v := X) (run (.inr ?_)) hx
      cases hx with
      | fn h1 h2 h3 h4 => exact ⟨_, _, _, rfl⟩
    · exact hd.elim
  | binOp op t x y yt =>
    rw [ho] at hd
    simp only [semOp] at hd ⊢
    by_cases hn : nilCmp P op t y (evO ts x) = true
    · rw [if_pos hn]
      have hx := AR.evO hv x
      obtain ⟨b, hb, hr⟩ := nilCmp_sound (w := w) (ρ := ρ) (F := F) hn hx
      exact pure1 hh (r := ⟨True, nilRes op (evO ts x)⟩) (S := do eqGuard op t x y (a.eval x) (a.eval y); binOp op t (a.eval x) (a.eval y)) (by simp [execOp, ho]) ⟨.bool b, hb, hr⟩
    · rw [if_neg hn] at hd ⊢
      by_cases hst : isStr P t (evO ts x) = true
      · rw [if_pos hst] at hd ⊢
        have hfl : flatS P t = true ∧ ∀ xs, evO ts x = .agg xs → xs.length = (P.fieldsOf t).size := by
          unfold isStr at hst
          split at hst
          · rename_i xs e
            simp only [Bool.and_eq_true, beq_iff_eq] at hst
            exact ⟨hst.1, fun ys e' => by rw [e] at e'; cases e'; exact hst.2⟩
          · cases hst
        exact pure1 hh (S := do eqGuard op t x y (a.eval x) (a.eval y); binOp op t (a.eval x) (a.eval y)) (by simp [execOp, ho]) (eqS_sound hfl.1 (AR.evO hv x) (AR.evO hv y) hfl.2 hd)
      rw [if_neg hst] at hd ⊢
      exact pure1 hh (S := do eqGuard op t x y (a.eval x) (a.eval y); binOp op t (a.eval x) (a.eval y)) (by simp [execOp, ho]) (aBin_sound (AR.evO hv x) (AR.evO hv y) hd)
  | unOp op t x =>
    rw [ho] at hd
    exact pure1 hh (S := Op.unary op (a.eval x)) (by simp [execOp, ho]) (aUn_sound (AR.evO hv x) hd)
  | convert src dst x =>
    rw [ho] at hd
    have hx := AR.evO hv x
    simp only [semOp] at hd ⊢
    split at hd
    · rename_i s k hs hdst
      simp only [lift] at hd ⊢
      generalize evO ts x = y at hd hx
      generalize hX : a.eval x = X at hx
      unfold aConvI at hd ⊢
      split at hd
      · cases hx with | t hx =>
        cases hx
        refine stay hh (v := _) ?_ (.t (.int _ _))
        simp [execOp, ho, hX, convert, run_underlying hs, run_underlying hdst, Conv.intToInt]
      · exact hd.elim
    · exact hd.elim
  | makeFunc fn first captured =>
    rw [ho] at hd
    cases fn with
    | func f =>
      refine stay hh (v := .func (.func f) (first.map a.eval) (captured.map a.eval)) (by simp [execOp, ho, Instr.makeFunc]) (.fn (listEv hv).1 (listEv hv).2 (listEv hv).1 (listEv hv).2)
    | _ => exact hd.elim
  | makeMap t r =>
    rw [ho] at hd
    cases r with
    | some r => exact hd.elim
    | none =>
      simp only [semOp] at hd ⊢
      split at hd
      · rename_i kd z hm
        refine ⟨_, _, _, F, .inl ?_, AR.mapr (setI_same _ _ _), Stp.newMapl hh hd kd⟩
        simp [execOp, ho, Instr.makeMap]
      · exact hd.elim
  | makeSlice t l c =>
    rw [ho] at hd
    simp only [semOp] at hd ⊢
    split at hd
    · rename_i e hu
      split at hd
      · rename_i sz by_ zs hel
        obtain ⟨inf, z, g1, g2, g3, g4, rfl, rfl, rfl⟩ := elemOf_ok hel
        exact mem1 (S := Instr.makeSlice t (a.eval l) (a.eval c)) (by simp [execOp, ho]) (make_sound hh hu g1 g2 g3 (AR.evO hv l) (AR.evO hv c) hd)
      · exact hd.elim
    · exact hd.elim
  | slice t x lo hi mx =>
    rw [ho] at hd
    simp only [semOp] at hd ⊢
    split at hd
    · rename_i e hu
      split at hd
      · rename_i inf hi'
        exact pure1 hh (S := Instr.sliceAt t (a.eval x) (lo.map a.eval) (hi.map a.eval) (mx.map a.eval)) (by simp [execOp, ho])
          (by
            have hq := aSl_ok hd
            show ∃ v, _ ∧ AR ρ F w v (aSl inf.size (sof (evO ts x)) (lo.map (evO ts)) (hi.map (evO ts)) (mx.map (evO ts)) σ).val
            rw [← hq.2]
            exact aSlice'_sound hh ⟨e, inf, hu, hi', rfl⟩ (AR.evO hv x).sof (optEv hv).1 (optEv hv).2 (optEv hv).1 (optEv hv).2 (optEv hv).1 (optEv hv).2 hq.1)
      · exact hd.elim
    · rename_i hu
      exact pure1 hh (S := Instr.sliceAt t (a.eval x) (lo.map a.eval) (hi.map a.eval) (mx.map a.eval)) (by simp [execOp, ho])
        (aSliceS_sound hu (AR.evO hv x) (optEv hv).1 (optEv hv).2 (optEv hv).1 (optEv hv).2 (optEv hv).2 hd)
    · exact hd.elim
  | fieldAddr s x f =>
    rw [ho] at hd
    have hx := AR.evO hv x
    simp only [semOp] at hd ⊢
    split at hd
    · rename_i fs hu
      split at hd
      · rename_i fd hf
        split at hd
        · rename_i n hn
          have run : ∀ ad : Addr, (Instr.fieldAt s (.pointer (some ad)) f).run P w = .ok (.pointer (some (ad.add fd.offset))) w := fun ad => by
            simp [Instr.fieldAt, run_underlying hu, hf, Instr.sureAddr, fieldPlace, info_size hn]
          refine pure1 hh (S := Instr.fieldAt s (a.eval x) f) (by simp [execOp, ho]) ?_
          generalize a.eval x = X at hx
          generalize evO ts x = y at hd hx ⊢
          simp only [lift] at hd
          unfold aFieldAddr at hd ⊢
          split at hd
          · cases hx with
            | ptr hρ => exact ⟨_, run _, by rw [add_off, Nat.add_assoc]; exact .ptr hρ⟩
            | ptrDead ad hρ => exact ⟨_, run _, .ptrDead _ hρ⟩
          · cases hx with
            | eptr vals hb hvv ht => exact ⟨_, run _, by rw [add_off, Nat.add_assoc]; exact .eptr vals hb hvv ht⟩
          · exact hd.elim
        · exact hd.elim
      · exact hd.elim
    · exact hd.elim
  | indexAddr t x i =>
    rw [ho] at hd
    simp only [semOp] at hd ⊢
    split at hd
    · rename_i e hu
      split at hd
      · rename_i sz hs
        exact pure1 hh (S := Instr.indexAt t (a.eval x) (a.eval i)) (by simp [execOp, ho]) (aIdx_sound hh (.inr ⟨rfl, hu⟩) hs (AR.evO hv x) (AR.evO hv i) hd)
      · exact hd.elim
    · rename_i m e hu
      split at hd
      · rename_i sz hs
        exact pure1 hh (S := Instr.indexAt t (a.eval x) (a.eval i)) (by simp [execOp, ho]) (aIdx_sound hh (.inl ⟨m, rfl, hu⟩) hs (AR.evO hv x) (AR.evO hv i) hd)
      · exact hd.elim
    · exact hd.elim
  | index t x i =>
    rw [ho] at hd
    simp only [semOp] at hd ⊢
    split at hd
    · rename_i hu
      exact pure1 hh (S := Instr.index t (a.eval x) (a.eval i)) (by simp [execOp, ho]) (aStrIdx_sound hu (AR.evO hv x) (AR.evO hv i) hd)
    · rename_i n e hu
      split at hd
      · rename_i hte
        refine pure1 hh (S := Instr.index t (a.eval x) (a.eval i)) (by simp [execOp, ho]) ?_
        have hx := AR.evO hv x
        have hi := AR.evO hv i
        simp only [lift] at hd
        unfold aArrIdx at hd ⊢
        split at hd
        · rename_i xs k j hxs hj
          rw [hxs] at hx
          rw [hj] at hi
          obtain ⟨d1, d2, d3⟩ := hd
          have hr := tyOf_run hte w
          generalize a.eval x = X at hx ⊢
          generalize a.eval i = I at hi ⊢
          cases hi with | t hi =>
          cases hi
          cases hx with | agg hs h =>
          rename_i vs
          have hjn : j.toNat < xs.length := by omega
          have hjv : j.toNat < vs.size := by omega
          refine ⟨vs[j.toNat], ?_, ?_⟩
          · simp [Instr.index, asIntOf, run_underlying hu, hr.1, hr.2, part, d1, d2, hjv]
          · have := h j.toNat vs[j.toNat] xs[j.toNat] (by simp) (by simp)
            simpa [List.getD, hjn] using this
        · exact hd.elim
      · exact hd.elim
    · exact hd.elim
  | field t x f =>
    rw [ho] at hd
    simp only [semOp] at hd ⊢
    split at hd
    · rename_i fs hu
      split at hd
      · rename_i fd hf
        split at hd
        · rename_i ag n hte
          refine pure1 hh (S := Instr.field t (a.eval x) f) (by simp [execOp, ho]) ?_
          have hx := AR.evO hv x
          have hr := tyOf_run hte w
          simp only [lift] at hd
          unfold aField at hd ⊢
          split at hd
          · rename_i xs hxs
            rw [hxs] at hx
            generalize a.eval x = X at hx ⊢
            cases hx with | agg hs h =>
            rename_i vs
            unfold cellsV at hd ⊢
            cases ag with
            | true =>
              simp only [if_true] at hd ⊢
              refine ⟨.agg (vs.extract fd.offset (fd.offset + n)), ?_, .agg ?_ fun i v a h1 h2 => ?_⟩
              · simp [Instr.field, run_underlying hu, hf, part, hr.1, hr.2, asAgg]
              · simp; omega
              · have hi : i < n := by have := lt_of_get h2; simp at this; omega
                rw [List.getElem?_take_of_lt hi, List.getElem?_drop] at h2
                rw [Array.getElem?_extract] at h1
                split at h1
                · exact h _ _ _ h1 h2
                · cases h1
            | false =>
              simp only [Bool.false_eq_true, if_false] at hd ⊢
              have hjv : fd.offset < vs.size := by omega
              refine ⟨vs[fd.offset], ?_, ?_⟩
              · simp [Instr.field, run_underlying hu, hf, part, hr.1, hr.2, asAgg, hjv]
              · have := h fd.offset vs[fd.offset] xs[fd.offset] (by simp) (by simp)
                simpa [List.getD, hd] using this
          · exact hd.elim
        · exact hd.elim
      · exact hd.elim
    · exact hd.elim
  | lookup t m k ok =>
    rw [ho] at hd
    simp only [semOp] at hd ⊢
    split at hd
    · rename_i kd z hm
      obtain ⟨kt, e, hu, hk, hz⟩ := mapTy_ok hm
      obtain ⟨zv, hz1, rfl⟩ := Option.map_eq_some_iff.1 hz.symm
      obtain ⟨inf, hi, hi2⟩ := Option.bind_eq_some_iff.1 hz1
      exact pure1 hh (S := Instr.lookup t (a.eval m) (a.eval k) ok) (by simp [execOp, ho])
        (by
          have hq := aLookupK_ok hd
          show ∃ v, _ ∧ AR ρ F w v (aLookupK ok kd (elTy P t).1 (kindsOf P (elTy P t).2.2 (elTy P t).2.1) _ (evO ts m) (evO ts k) σ).val
          rw [← hq.2]
          exact aLookup_sound hh hu hk (fun w => by simp [zeroValue, typeInfo, hi, hi2]) (AR.absV ρ F w zv) (AR.evO hv m) (AR.evO hv k) ok hq.1)
    · exact hd.elim
  | mapUpdate t m k x =>
    rw [ho] at hd
    simp only [semOp] at hd ⊢
    split at hd
    · rename_i kd z hm
      obtain ⟨kt, e, hu, hk, hz⟩ := mapTy_ok hm
      exact wr1 (S := Instr.mapUpdate t (a.eval m) (a.eval k) (a.eval x)) (by simp [execOp, ho]) (aMapUpd_sound hh hu hk (AR.evO hv m) (AR.evO hv k) (AR.evO hv x) hd)
    · exact hd.elim
  | insert t m k x =>
    rw [ho] at hd
    simp only [semOp] at hd ⊢
    split at hd
    · rename_i kd z hm
      obtain ⟨kt, e, hu, hk, hz⟩ := mapTy_ok hm
      exact wr1 (S := Instr.mapUpdate t (a.eval m) (a.eval k) (a.eval x)) (by simp [execOp, ho]) (aMapUpd_sound hh hu hk (AR.evO hv m) (AR.evO hv k) (AR.evO hv x) hd)
    · exact hd.elim
  | extract x i =>
    rw [ho] at hd
    exact pure1 hh (S := Instr.extract (a.eval x) i) (by simp [execOp, ho]) (aExtract_sound (AR.evO hv x) hd)
  | call c =>
    rw [ho] at hd
    obtain ⟨callee, args, tys⟩ := c
    cases callee with
    | builtin b => exact sem_builtin hv hh ho hd
    | value f => exact hd.elim
    | invoke r m => exact hd.elim
  | _ => rw [ho] at hd; exact hd.elim

end

end Go.Dm
