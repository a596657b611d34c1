/-
  What the machine that can be run says is so of the model.
  Conditions: none.
-/
import Derived.Test.YtbhlfbkheijojaaEv8
namespace Go.Dm

/-- operations one after the other -/
def nestL (P : Program) (Γ : Pures) (ops : Array Oper) : List Oper → (St → Prop) → St → Prop
  | [], K, st => K st
  | o :: r, K, st => opN P Γ ops o (nestL P Γ ops r K) st

theorem nest_range {P : Program} {Γ : Pures} {ops : Array Oper} {K : St → Prop} : ∀ (m k : Nat), k + m = ops.size → nest P Γ ops (List.range' k m) K = nestL P Γ ops (ops.toList.drop k) K
  | 0, k, h => by
    have : ops.toList.drop k = [] := List.drop_eq_nil_of_le (by simp; omega)
    rw [this]; rfl
  | m + 1, k, h => by
    have hk : k < ops.toList.length := by simp; omega
    rw [List.drop_eq_getElem_cons hk]
    funext st
    rw [List.range'_succ]
    unfold nest nestL
    have e : ops[k]? = some ops.toList[k] := by rw [← Array.getElem?_toList]; exact List.getElem?_eq_getElem hk
    rw [e]
    simp only
    rw [nest_range m (k + 1) (by omega)]

theorem nest_all {P : Program} {Γ : Pures} {ops : Array Oper} {K : St → Prop} : nest P Γ ops (List.range ops.size) K = nestL P Γ ops ops.toList K := by
  rw [List.range_eq_range', nest_range ops.size 0 (by omega), List.drop_zero]

section
variable {X : Ctx} {E : Env} (hlo : X.lo ≤ E.n) (hhi : E.n ≤ X.hi)

/-- what a call comes to -/
def CallOk (X : Ctx) (E : Env) (call : Nat → List SV → TH → Nat → Option (List SOut)) : Prop :=
  ∀ f args h c outs, call f args h c = some outs → callable X.P f = true ∧ FSpec X.P f (dens E args) (denH E h) (fun r σ' => ∃ o ∈ outs, r = o.1.den E ∧ σ' = denH E o.2.1)

theorem callOf_den {ts : Sl} {o : Op} {fa : FuncId × List SV} (h : sCallOf ts o = some fa) : callOf (evO (dts E ts)) o = some (fa.1, dens E fa.2) := by
  have hev : evO (dts E ts) = fun x => (sEv ts x).den E := funext (evO_den E ts)
  rw [hev]
  unfold sCallOf at h
  split at h
  · rename_i f args tys
    unfold sFnOf at h
    split at h
    · rename_i g a b hf
      cases h
      simp only [callOf, hf, SV.den, dens_append, map_den_list]
    · cases h
  · cases h
theorem callOf_no {ev : Operand → AV} {o : Op} (h : isCallOp o = false) : callOf ev o = none := by
  unfold callOf
  split
  · simp [isCallOp] at h
  · rfl
theorem nxOf_no {P : Program} {d : Nat} {ev : Operand → AV} {o : Op} {σ : Heap} (h : isNx o = false) : nxOf P d ev o σ = none := by
  unfold nxOf
  split
  · simp [isNx] at h
  · simp [isNx] at h
  · simp [isNx] at h
  · rfl
theorem denS_put {s : SS} {d : Option Tmp} {v : SV} {h : TH} {c low : Nat} (hd : okD s.ts d = true) : ({ ((denS E s).put d (v.den E)) with σ := denH E h } : St) = denS E ⟨putS s.ts d v, h, c, low⟩ := by
  unfold denS
  rw [put_mk]
  simp only [dts_put E s.ts d v hd]

theorem dstN_eq (d : Option Tmp) : dstN d = d.getD 0 := by cases d <;> rfl

include hlo hhi in
/-- an operation without a call -/
theorem sDo_plain {call : Nat → List SV → TH → Nat → Option (List SOut)} {b0 : Nat} {Γ : Pures} (hb : Γ.base = b0) {o : Oper} {s : SS} {K : St → Prop} (hic : isCallOp o.op = false)
    (h1 : ∀ s', sDo X call b0 o s = .one s' → K (denS E s')) (h2 : ∀ l, sDo X call b0 o s = .many l → ∀ s' ∈ l, K (denS E s')) (hbad : sDo X call b0 o s ≠ .bad) : opB X.P Γ o K (denS E s) := by
  have hkey : dkey Γ o = b0 + dstN o.dst := by unfold dkey; rw [hb, dstN_eq]
  have ht : (denS E s).tmps = dts E s.ts := rfl
  have hσ : (denS E s).σ = denH E s.h := rfl
  unfold opB
  rw [ht, hσ, hkey]
  unfold sDo at h1 h2 hbad
  rw [hic] at h1 h2 hbad
  simp only [cond_false] at h1 h2 hbad
  cases hn : isNx o.op with
  | true =>
    rw [hn] at h1 h2 hbad
    simp only [cond_true] at h1 h2 hbad
    rw [callOf_no hic]
    unfold nxOp at h1 h2 hbad
    cases hx : sNx X.P (b0 + dstN o.dst) s.ts o.op s.h with
    | none => rw [hx] at hbad; exact absurd rfl hbad
    | some l =>
      rw [hx] at h1 h2 hbad
      simp only at h1 h2 hbad
      cases hc : (okD s.ts o.dst && l.all fun x => okU x.2) with
      | false => rw [hc] at hbad; exact absurd rfl hbad
      | true =>
        rw [hc] at h1 h2 hbad
        simp only [cond_true] at h1 h2 hbad
        simp only [Bool.and_eq_true, List.all_eq_true] at hc
        obtain ⟨r, hr, hrd, hrv⟩ := sNx_ok (X := X) (E := E) hx
        simp only [hr]
        have hall : ∀ x ∈ l, K (denS E (s.ap o.dst x)) := by
          match l, h1, h2 with
          | [], _, _ => intro x hx; simp at hx
          | [y], h1, _ => intro x hx; simp at hx; subst hx; exact h1 _ rfl
          | y :: z :: r, _, h2 => intro x hx; exact h2 _ rfl _ (List.mem_map.2 ⟨x, hx, rfl⟩)
        have hne : l ≠ [] := fun e => by subst e; exact hbad rfl
        refine ⟨⟨hrd, ?_⟩, fun x hx => ?_⟩
        · rw [hrv]; simpa using hne
        · rw [hrv] at hx
          obtain ⟨y, hy, rfl⟩ := List.mem_map.1 hx
          have := hall y hy
          rw [← denH_ups E y.2 s.h (hc.2 y hy)]
          rw [denS_put (c := s.c) (low := lowU s.low y.2) hc.1]
          exact this
  | false =>
    rw [hn] at h1 h2 hbad
    simp only [cond_false] at h1 h2 hbad
    rw [callOf_no hic]
    simp only [nxOf_no hn]
    unfold oneOp at h1 h2 hbad
    cases hx : sOp X (b0 + dstN o.dst) s.ts o.op s.h with
    | none => rw [hx] at hbad; exact absurd rfl hbad
    | some x =>
      rw [hx] at h1 h2 hbad
      simp only at h1 h2 hbad
      cases hc : (okD s.ts o.dst && okU x.2) with
      | false => rw [hc] at hbad; exact absurd rfl hbad
      | true =>
        rw [hc] at h1 h2 hbad
        simp only [cond_true] at h1 h2 hbad
        simp only [Bool.and_eq_true] at hc
        obtain ⟨g1, g2⟩ := sOp_ok hlo hhi (E := E) hx
        refine ⟨g1, ?_⟩
        rw [g2]
        simp only
        rw [← denH_ups E x.2 s.h hc.2]
        rw [denS_put (c := s.c) (low := lowU s.low x.2) hc.1]
        exact h1 _ rfl

include hlo hhi in
theorem sDo_ok {call : Nat → List SV → TH → Nat → Option (List SOut)} (hcall : CallOk X E call) {b0 : Nat} {o : Oper} {s : SS} {K : St → Prop}
    (h1 : ∀ s', sDo X call b0 o s = .one s' → K (denS E s')) (h2 : ∀ l, sDo X call b0 o s = .many l → ∀ s' ∈ l, K (denS E s')) (hbad : sDo X call b0 o s ≠ .bad) : opB X.P (Γb b0) o K (denS E s) := by
  cases hic : isCallOp o.op with
  | false => exact sDo_plain hlo hhi rfl hic h1 h2 hbad
  | true =>
    unfold sDo at h1 h2 hbad
    rw [hic] at h1 h2 hbad
    simp only [cond_true] at h1 h2 hbad
    cases hf : sCallOf s.ts o.op with
    | none => rw [hf] at hbad; exact absurd rfl hbad
    | some fa =>
      obtain ⟨f, args⟩ := fa
      rw [hf] at h1 h2 hbad
      unfold callOp callIt at h1 h2 hbad
      simp only at h1 h2 hbad
      cases hl : call f args s.h s.c with
      | none => rw [hl] at hbad; exact absurd rfl hbad
      | some l =>
        rw [hl] at h1 h2 hbad
        simp only at h1 h2 hbad
        cases hd : okD s.ts o.dst with
        | false => rw [hd] at hbad; exact absurd rfl hbad
        | true =>
          rw [hd] at h1 h2 hbad
          simp only [cond_true] at h1 h2 hbad
          have hall : ∀ x ∈ l, K (denS E (afterCall s o.dst x)) := by
            match l, h1, h2 with
            | [], _, _ => intro x hx; simp at hx
            | [y], h1, _ => intro x hx; simp at hx; subst hx; exact h1 _ rfl
            | y :: z :: r, _, h2 => intro x hx; exact h2 _ rfl _ (List.mem_map.2 ⟨x, hx, rfl⟩)
          have hne : l ≠ [] := fun e => by subst e; exact hbad rfl
          obtain ⟨g1, g2⟩ := hcall f args s.h s.c l hl
          unfold opB
          have ht : (denS E s).tmps = dts E s.ts := rfl
          rw [ht, callOf_den hf]
          refine ⟨rfl, _, ⟨g1, g2, ?_⟩, fun r σ' hr => ?_⟩
          · obtain ⟨x, hx⟩ := List.exists_mem_of_ne_nil _ hne
            exact ⟨_, _, x, hx, rfl, rfl⟩
          · obtain ⟨x, hx, rfl, rfl⟩ := hr
            rw [denS_put (c := x.2.2.1) (low := bif Nat.blt x.2.2.2 s.low then x.2.2.2 else s.low) hd]
            exact hall x hx

theorem sgval_den {ops : Array Oper} {s : SS} {j : Nat} : gval ops (denS E s).tmps j = (sgval ops s.ts j).den E := by
  unfold gval sgval
  cases (ops[j]?).bind (·.dst) with
  | none => rfl
  | some d => exact dts_getD' E s.ts d

/-- a guarded operation -/
theorem sGuard_ok {P : Program} {Γ : Pures} {ops : Array Oper} {o : Oper} {s : SS} {K : St → Prop} (h1 : sGuard ops o s.ts = some true → opB P Γ o K (denS E s)) (h2 : sGuard ops o s.ts = some false → K ((denS E s).put o.dst (.tup []))) (hn : sGuard ops o s.ts ≠ none) :
    opN P Γ ops o K (denS E s) := by
  unfold opN
  unfold sGuard at h1 h2 hn
  cases hg : o.guard with
  | none => rw [hg] at h1; exact h1 rfl
  | some jb =>
    obtain ⟨j, b⟩ := jb
    rw [hg] at h1 h2 hn
    simp only at h1 h2 hn ⊢
    rw [sgval_den]
    cases hv : sgval ops s.ts j with
    | bool c =>
      rw [hv] at h1 h2
      simp only [Option.some.injEq, beq_iff_eq] at h1 h2
      simp only [SV.den]
      exact ⟨fun e => h1 e, fun e => h2 (by subst e; cases b <;> rfl)⟩
    | tup vs =>
      rw [hv] at h1 h2 hn
      cases vs with
      | nil => exact h2 rfl
      | cons a r => simp at hn
    | _ => rw [hv] at hn; simp at hn

theorem skip_den {s : SS} {d : Option Tmp} (hd : okD s.ts d = true) : (denS E s).put d (.tup []) = denS E (skipS s d) := by
  have := denS_put (E := E) (s := s) (d := d) (v := .tup []) (h := s.h) (c := s.c) (low := s.low) hd
  unfold skipS
  rw [← this]
  simp only [SV.den, dens]
  cases d <;> rfl

include hlo hhi in
theorem sNest_ok {call : Nat → List SV → TH → Nat → Option (List SOut)} (hcall : CallOk X E call) {b0 : Nat} {ops : Array Oper} : ∀ (l : List Oper) (s : SS) (outs : List SS) (K : St → Prop), sNest X call b0 ops l s = some outs → (∀ s' ∈ outs, K (denS E s')) →
    nestL X.P (Γb b0) ops l K (denS E s)
  | [], s, outs, K, h, hK => by cases h; exact hK s (by simp)
  | o :: r, s, outs, K, h, hK => by
    unfold sNest at h
    simp only [sDoF_eq] at h
    unfold nestL
    refine sGuard_ok (fun hg => ?_) (fun hg => ?_) (fun hg => ?_)
    · rw [hg] at h
      simp only at h
      refine sDo_ok hlo hhi hcall (fun s' h1 => ?_) (fun l h1 s' hs' => ?_) (fun h1 => ?_)
      · rw [h1] at h
        exact sNest_ok hcall r s' outs K h hK
      · rw [h1] at h
        obtain ⟨q, hq, hsub⟩ := (bindL_mem h).2 s' hs'
        exact sNest_ok hcall r s' q K hq fun y hy => hK y (hsub y hy)
      · rw [h1] at h; cases h
    · rw [hg] at h
      obtain ⟨hd, h2⟩ := cond_some h
      rw [skip_den hd]
      exact sNest_ok hcall r _ outs K h2 hK
    · rw [hg] at h; cases h

/-! drawn regions -/
theorem keysAV_den (v : SV) : keysAV (v.den E) = skeys v := by cases v <;> rfl
theorem kys_den {b0 : Nat} {Γ : Pures} (hb : Γ.base = b0) (o : Oper) (ts : Sl) : kys Γ o (dts E ts) = skys b0 o ts := by
  unfold kys keysOp skys dkey
  rw [hb]
  congr 1
  congr 1
  funext x
  rw [evO_den, keysAV_den]
theorem wr_den {b0 : Nat} {Γ : Pures} (hb : Γ.base = b0) (o : Oper) (ts : Sl) : wr Γ o (dts E ts) = swr b0 o ts := by
  have := kys_den (E := E) hb o ts
  unfold kys at this
  unfold wr swr
  rw [this]

theorem apart_den {b0 : Nat} {l : List Rec} {ops : Array Oper} {ts : Sl} (h : sApart b0 l ops ts = true) : apartAll (Γl b0 (recOf l)) ops (dts E ts) = true := by
  have hl : loose (Γl b0 (recOf l)) ops = loose Γ0 ops := rfl
  unfold apartAll
  unfold sApart at h
  rw [hl]
  simp only [List.all_eq_true] at h ⊢
  intro p hp
  have := h p hp
  split at this
  · rename_i oj oi hj hi
    simp only [hj, hi]
    unfold apart2
    unfold sApart2 at this
    have c1 : cls (Γl b0 (recOf l)) oj.op = cls Γ0 oj.op := rfl
    have c2 : cls (Γl b0 (recOf l)) oi.op = cls Γ0 oi.op := rfl
    have f1 : fpOf (Γl b0 (recOf l)) oj (dts E ts) = recOf l oj.dst := rfl
    have f2 : fpOf (Γl b0 (recOf l)) oi (dts E ts) = recOf l oi.dst := rfl
    rw [c1, c2, f1, f2, kys_den (E := E) (Γ := Γl b0 (recOf l)) rfl, kys_den (E := E) (Γ := Γl b0 (recOf l)) rfl, wr_den (E := E) (Γ := Γl b0 (recOf l)) rfl, wr_den (E := E) (Γ := Γl b0 (recOf l)) rfl]
    exact this
  · rename_i hn
    cases hj : ops[p.1]? with
    | none => rfl
    | some oj =>
      cases hi : ops[p.2]? with
      | none => rfl
      | some oi => exact absurd hi (hn oj oi hj)

mutual
theorem sInK_den {p : Nat → Bool} (ks : List Nat) (hp : ∀ k, p k = true → ks.contains k = true) : ∀ v : SV, sInK p v = true → inK ks (v.den E) = true
  | .ptr k _ _, h => hp k h
  | .own k _ _ _, h => hp k h
  | .mapr k, h => hp k h
  | .it k, h => hp k h
  | .agg l, h => by simp only [SV.den, inK]; exact sInKs_den ks hp l h
  | .tup l, h => by simp only [SV.den, inK]; exact sInKs_den ks hp l h
  | .fn _ a b, h => by
    simp only [sInK, Bool.and_eq_true] at h
    simp only [SV.den, inK, Bool.and_eq_true]
    exact ⟨sInKs_den ks hp a h.1, sInKs_den ks hp b h.2⟩
  | .bool _, _ => rfl
  | .int _ _, _ => rfl
  | .lin _ _, _ => rfl
  | .str _, _ => rfl
  | .nilp, _ => rfl
  | .nilmap, _ => rfl
  | .nilsl, _ => rfl
  | .emp, _ => rfl
  | .any, _ => rfl
  | .opq, _ => rfl
  | .bq _ _, _ => rfl
theorem sInKs_den {p : Nat → Bool} (ks : List Nat) (hp : ∀ k, p k = true → ks.contains k = true) : ∀ l : List SV, sInKs p l = true → inKs ks (dens E l) = true
  | [], _ => rfl
  | a :: r, h => by
    simp only [sInKs, Bool.and_eq_true] at h
    simp only [dens, inKs, Bool.and_eq_true]
    exact ⟨sInK_den ks hp a h.1, sInKs_den ks hp r h.2⟩
end
theorem sBlkIn_den {p : Nat → Bool} (ks : List Nat) (hp : ∀ k, p k = true → ks.contains k = true) (b : SBlk) (h : sBlkIn p b = true) : blkIn ks (b.den E) := by
  cases b with
  | dead => trivial
  | row t sz es =>
    intro e he
    obtain ⟨x, hx, rfl⟩ := List.mem_map.1 he
    exact sInKs_den ks hp x (List.all_eq_true.1 h x hx)
  | mapl kd es cl =>
    intro x hx
    obtain ⟨y, hy, rfl⟩ := List.mem_map.1 hx
    exact sInK_den ks hp _ (List.all_eq_true.1 h y hy)
  | itl src a b cl => exact sInK_den ks hp src h

theorem denH_mrg (h τ : TH) : denH E (mrgT h τ) = mrgH (denH E h) (denH E τ) := by
  funext k
  unfold denH mrgH
  rw [mrgT_get]
  cases hg : τ.get k <;> simp [hg]

/-- a call upon what it reaches -/
theorem callLoc_ok {call : Nat → List SV → TH → Nat → Option (List SOut)} (hcall : CallOk X E call) {b0 : Nat} {fp : Option Tmp → List Nat × Nat × Nat} {o : Oper} {s s' : SS} {x : Rec} {K : St → Prop}
    (h : callLoc call s o.dst (sCallOf s.ts o.op) = some (s', x)) (hx : fp o.dst = x.2) (hK : K (denS E s')) : x.1 = o.dst ∧ opB X.P (Γl b0 fp) o K (denS E s) := by
  unfold callLoc at h
  split at h
  · cases h
  · rename_i f args hf
    split at h
    · cases h
    · rename_i ks sub hr
      obtain ⟨h1, h2⟩ := cond_some h
      simp only [Bool.and_eq_true] at h1
      obtain ⟨⟨hd, hin⟩, hblk⟩ := h1
      split at h2
      · rename_i y hy
        obtain ⟨h3, h4⟩ := cond_some h2
        simp only [Option.some.injEq, Prod.mk.injEq] at h4
        obtain ⟨rfl, rfl⟩ := h4
        refine ⟨rfl, ?_⟩
        have hsub := reachT_ok _ _ _ _ _ _ hr (fun k => rfl)
        have hres : denH E sub = resH (denH E s.h) ks := by
          funext k
          unfold denH resH
          rw [hsub k]
          by_cases hm : ks.contains k = true
          · rw [if_pos hm, if_pos hm]
          · rw [if_neg hm, if_neg hm]; rfl
        obtain ⟨g1, g2⟩ := hcall f args sub s.c _ hy
        have ht : (denS E s).tmps = dts E s.ts := rfl
        have hfp : (Γl b0 fp).fp o.dst = (ks, s.c, y.2.2.1) := hx
        unfold opB
        rw [ht, callOf_den hf]
        show ∃ R : AV → Heap → Prop, ((callable X.P f = true ∧ ClosedK (dens E args) (resH (denH E s.h) ((Γl b0 fp).fp o.dst).1) ((Γl b0 fp).fp o.dst).1 ∧ FSpec X.P f (dens E args) (resH (denH E s.h) ((Γl b0 fp).fp o.dst).1) R) ∧ ∃ r τ, R r τ) ∧
          ∀ r τ, R r τ → FreshK ((Γl b0 fp).fp o.dst) (denH E s.h) τ ∧ K { ((denS E s).put o.dst r) with σ := mrgH (denH E s.h) τ }
        rw [hfp]
        simp only
        rw [← hres]
        refine ⟨_, ⟨⟨g1, ⟨sInKs_den ks (hasK_in hsub) args hin, fun k b hk hb => ?_⟩, g2⟩, _, _, y, by simp, rfl, rfl⟩, fun r τ hR => ?_⟩
        · unfold denH at hb
          rw [Option.map_eq_some_iff] at hb
          obtain ⟨z, hz, rfl⟩ := hb
          exact sBlkIn_den ks (hasK_in hsub) z (allK_spec hblk hz)
        · obtain ⟨z, hz, rfl, rfl⟩ := hR
          simp at hz
          subst hz
          refine ⟨fun k hk => ?_, ?_⟩
          · unfold denH at hk
            cases hg : z.2.1.get k with
            | none => rw [hg] at hk; exact absurd rfl hk
            | some b =>
              have := allK_spec h3 hg
              simp only [Bool.or_eq_true, Bool.and_eq_true, nat_ble, nat_blt, decide_eq_true_eq, Bool.not_eq_true', Tr.hasK_eq, Option.isSome_eq_false_iff, Option.isNone_iff_eq_none] at this
              rcases this with h | ⟨⟨h5, h6⟩, h7⟩
              · exact .inl (hasK_in hsub k (by rw [Tr.hasK_eq]; exact h))
              · exact .inr ⟨h5, h6, denH_none h7⟩
          · rw [← denH_mrg, denS_put (c := z.2.2.1) (low := bif Nat.blt z.2.2.2 s.low then z.2.2.2 else s.low) hd]
            exact hK
      · cases h2

theorem rec_keep {X : Ctx} {call : Nat → List SV → TH → Nat → Option (List SOut)} {b0 : Nat} {ops : Array Oper} : ∀ (l : List Oper) (s : SS) (rs : List Rec) (s' : SS) (rs' : List Rec), sNestD X call b0 ops l s rs = some (s', rs') →
    ∀ d, hasRec rs d = true → recOf rs' d = recOf rs d
  | [], s, rs, s', rs', h, d, hd => by cases h; rfl
  | o :: r, s, rs, s', rs', h, d, hd => by
    unfold sNestD at h
    simp only [sDoF_eq] at h
    split at h
    · cases h
    · obtain ⟨h1, h2⟩ := cond_some h
      exact rec_keep r _ _ _ _ h2 d hd
    · cases hic : isCallOp o.op with
      | true =>
        rw [hic] at h
        obtain ⟨hn, h2⟩ := cond_some' h
        split at h2
        · cases h2
        · rename_i s1 x1 h3
          have hx1 : x1.1 = o.dst := by
            unfold callLoc at h3
            split at h3
            · cases h3
            · split at h3
              · cases h3
              · obtain ⟨_, h4⟩ := cond_some h3
                split at h4
                · obtain ⟨_, h5⟩ := cond_some h4
                  simp only [Option.some.injEq, Prod.mk.injEq] at h5
                  rw [← h5.2]
                · cases h4
          have hne : x1.1 ≠ d := fun e => by rw [hx1] at e; rw [e, hd] at hn; cases hn
          have := rec_keep r _ _ _ _ h2 d (by simp only [hasRec, List.any_cons, Bool.or_eq_true] at hd ⊢; exact .inr hd)
          rw [this]
          show (if x1.1 = d then x1.2 else recOf rs d) = _
          rw [if_neg hne]
      | false =>
        rw [hic] at h
        simp only [cond_false] at h
        split at h
        · exact rec_keep r _ _ _ _ h d hd
        · cases h

include hlo hhi in
theorem sNestD_ok {call : Nat → List SV → TH → Nat → Option (List SOut)} (hcall : CallOk X E call) {b0 : Nat} {ops : Array Oper} {K : St → Prop} {lf : List Rec} : ∀ (l : List Oper) (s : SS) (rs : List Rec) (s' : SS), sNestD X call b0 ops l s rs = some (s', lf) → K (denS E s') →
    nestL X.P (Γl b0 (recOf lf)) ops l K (denS E s)
  | [], s, rs, s', h, hK => by cases h; exact hK
  | o :: r, s, rs, s', h, hK => by
    unfold sNestD at h
    simp only [sDoF_eq] at h
    unfold nestL
    refine sGuard_ok (fun hg => ?_) (fun hg => ?_) (fun hg => ?_)
    · rw [hg] at h
      simp only at h
      cases hic : isCallOp o.op with
      | true =>
        rw [hic] at h
        obtain ⟨hn, h2⟩ := cond_some' h
        split at h2
        · cases h2
        · rename_i s1 x1 h3
          have hrest := sNestD_ok hcall r s1 (x1 :: rs) s' h2 hK
          have hd0 : x1.1 = o.dst := by
            have := callLoc_ok (X := X) (E := E) hcall (b0 := b0) (fp := fun _ => x1.2) (K := fun _ => True) h3 rfl trivial
            exact this.1
          have hfp : recOf lf o.dst = x1.2 := by
            rw [rec_keep r _ _ _ _ h2 o.dst (by simp [hasRec, hd0])]
            show (if x1.1 = o.dst then x1.2 else recOf rs o.dst) = _
            rw [if_pos hd0]
          exact (callLoc_ok (X := X) (E := E) hcall h3 hfp hrest).2
      | false =>
        rw [hic] at h
        simp only [cond_false] at h
        refine sDo_plain hlo hhi (call := call) (b0 := b0) rfl hic (fun s1 h1 => ?_) (fun l h1 s1 hs1 => ?_) (fun h1 => ?_)
        · rw [h1] at h; exact sNestD_ok hcall r s1 rs s' h hK
        · rw [h1] at h; cases h
        · rw [h1] at h; cases h
    · rw [hg] at h
      obtain ⟨hd, h2⟩ := cond_some h
      rw [skip_den hd]
      exact sNestD_ok hcall r _ rs s' h2 hK
    · rw [hg] at h; cases h

include hlo hhi in
theorem sRegion_ok (hm : X.P.follows .mixedOrders = true) {call : Nat → List SV → TH → Nat → Option (List SOut)} (hcall : CallOk X E call) {id : Nat} {ops : Array Oper} {draw : Bool} {s : SS} {outs : List SS} (h : sRegion X call ops draw s = some outs)
    {ρ0 : Inj} {F0 : Fz} {W : World} {ρ : Inj} {F : Fz} {a : Act} {w : World} (hs : Sim ρ0 F0 W ρ F a w (denS E s)) : (Code.region id ops draw).wp X.P (LQ ρ0 F0 W fun e st => ∃ s' ∈ outs, e = .normal ∧ st = denS E s') a w := by
  unfold sRegion at h
  split at h
  · have hs' : Sim ρ0 F0 W ρ F a w (denS E ⟨s.ts, s.h, s.c + newN ops s.ts.n, s.low⟩) := hs
    have := sNest_ok hlo hhi hcall _ _ outs (fun st => ∃ s' ∈ outs, st = denS E s') h (fun s' hs' => ⟨s', hs', rfl⟩)
    rw [← nest_all] at this
    refine wp_region (nest_sound (K := fun st => ∃ s' ∈ outs, st = denS E s') (fun ρ F a w st s hk => ?_) _ ρ F a w _ hs' this)
    obtain ⟨s', h1, h2⟩ := hk
    exact ⟨st, ρ, F, s, s', h1, rfl, h2⟩
  · obtain ⟨hd, h2⟩ := cond_some h
    unfold sRegD at h2
    split at h2
    · cases h2
    · rename_i s1 l h1
      obtain ⟨hap, h3⟩ := cond_some h2
      cases h3
      have hd' : drawOK (Γl s.c (recOf l)) ops = true := hd
      have hs' : Sim ρ0 F0 W ρ F a w (denS E ⟨s.ts, s.h, s.c + newND ops s.ts.n, s.low⟩) := hs
      have := sNestD_ok hlo hhi hcall (K := fun st => apartAll (Γl s.c (recOf l)) ops st.tmps = true ∧ st = denS E s1) _ _ _ _ h1 ⟨apart_den hap, rfl⟩
      rw [← nest_all] at this
      refine draw_sound hm hd' (K := fun st => st = denS E s1) (fun ρ F a w st s hk => ?_) hs' this
      exact ⟨st, ρ, F, s, s1, by simp, rfl, hk⟩

end

end Go.Dm
