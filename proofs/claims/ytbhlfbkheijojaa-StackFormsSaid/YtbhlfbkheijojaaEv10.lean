/-
  A run of the machine tells what a function of the program does.
  Conditions: what is given of some functions ('spec') is so.
-/
import Derived.Test.YtbhlfbkheijojaaEv9
namespace Go.Dm

section
variable {X : Ctx} {E : Env} (hlo : X.lo ≤ E.n) (hhi : E.n ≤ X.hi)

/-- what is given of some functions is so -/
def SpecOk (X : Ctx) (E : Env) : Prop := ∀ f args h d x, X.spec f args h d = some x → okU x.2 = true →
  callable X.P f = true ∧ FSpec X.P f (dens E args) (denH E h) (fun r σ' => r = x.1.den E ∧ σ' = updAll (denH E h) (denU E x.2))

def RunOk (X : Ctx) (E : Env) (c : Code) (s : SS) (outs : List SE) : Prop :=
  ∀ (ρ0 : Inj) (F0 : Fz) (W : World) (ρ : Inj) (F : Fz) (a : Act) (w : World), (∀ k, denH E s.h k = none → ρ k = none) → Sim ρ0 F0 W ρ F a w (denS E s) →
    c.wp X.P (LQ ρ0 F0 W fun e st => ∃ o ∈ outs, e = o.1 ∧ st = denS E o.2) a w

theorem slT_get : ∀ (l : List SV) (i : Nat) (t : Tr SV) (k : Nat), i + l.length < 9223372036854775808 → (slT l i t).get k = if i ≤ k ∧ k < i + l.length then l[k - i]? else t.get k
  | [], i, t, k, _ => by
    simp only [slT, List.length_nil, Nat.add_zero]
    rw [if_neg (by omega)]
  | a :: r, i, t, k, h => by
    simp only [List.length_cons] at h
    simp only [slT, List.length_cons]
    rw [slT_get r (i + 1) _ k (by omega), Tr.get_set64 a t k (by omega)]
    by_cases h1 : k = i
    · subst h1
      rw [if_neg (by omega), if_pos rfl, if_pos (by omega)]
      simp
    · by_cases h2 : i + 1 ≤ k ∧ k < i + 1 + r.length
      · rw [if_pos h2, if_pos (by omega)]
        have : k - i = (k - (i + 1)) + 1 := by omega
        rw [this, List.getElem?_cons_succ]
      · rw [if_neg h2, if_neg h1, if_neg (by omega)]

theorem dts_start {args : List SV} {n : Nat} (h1 : args.length ≤ n) (h2 : n ≤ 4294967296) : dts E ⟨slT args 0 .lf, n⟩ = dens E args ++ List.replicate (n - args.length) (.tup []) := by
  apply List.ext_getElem?
  intro i
  unfold dts
  rw [List.getElem?_map]
  by_cases hi : i < n
  · rw [List.getElem?_range hi, Option.map_some, Sl.at_eq]
    simp only [hi, if_true]
    rw [slT_get args 0 .lf i (by omega)]
    by_cases h3 : i < args.length
    · rw [if_pos (by omega), List.getElem?_append_left (by simpa using h3), dens_get]
      simp [h3]
    · rw [if_neg (by omega), List.getElem?_append_right (by simp; omega), List.getElem?_replicate, if_pos (by simp; omega)]
      simp [Tr.get_lf, SV.den, dens]
  · rw [List.getElem?_eq_none (by simp; omega), List.getElem?_eq_none (by simp; omega)]
    rfl

theorem sResOne_ok {s : SS} {r : ResultVar} {v : SV} (h : sResOne X.P s r = some v) : Ok E (resOne X.P (denS E s) r) v := by
  cases r with
  | tmp t => cases h; exact ⟨trivial, dts_getD E s.ts t⟩
  | cell a t =>
    simp only [sResOne] at h
    split at h
    · rename_i ag n k e o ht ha
      have hg : (denS E s).tmps.getD a (.tup []) = .ptr k e o := by
        show (dts E s.ts).getD a (.tup []) = _
        rw [dts_getD, ha]; rfl
      have hl := sLoad_ok (E := E) h (by simp)
      have hk := aLoadK_ok hl.1
      simp only [List.length_replicate] at hk
      simp only [resOne, ht, hg]
      exact ⟨hk.1, hk.2.trans hl.2⟩
    · cases h

theorem sResAll_ok {s : SS} : ∀ (rs : List ResultVar) (vs : List SV), sResAll X.P s rs = some vs → resDom X.P (denS E s) rs ∧ rs.map (fun r => (resOne X.P (denS E s) r).val) = dens E vs
  | [], vs, h => by cases h; exact ⟨trivial, rfl⟩
  | r :: rs, vs, h => by
    unfold sResAll at h
    split at h
    · rename_i v vs' h1 h2
      cases h
      have := sResOne_ok (E := E) h1
      have ih := sResAll_ok rs vs' h2
      exact ⟨⟨this.1, ih.1⟩, by simp only [List.map_cons, dens, this.2, ih.2]⟩
    · cases h

theorem sRes_ok {s : SS} {rs : List ResultVar} {v : SV} (h : sRes X.P s rs = some v) : resDom X.P (denS E s) rs ∧ resVal X.P (denS E s) rs = v.den E := by
  unfold sRes at h
  split at h
  · rename_i u hu
    cases h
    obtain ⟨h1, h2⟩ := sResAll_ok (E := E) rs _ hu
    refine ⟨h1, ?_⟩
    match rs, h2 with
    | [r], h2 => simp only [List.map_cons, List.map_nil, dens, List.cons.injEq, and_true] at h2; exact h2
    | [], h2 => simp [dens] at h2
    | r :: r' :: rs, h2 => simp [dens] at h2
  · rename_i vs hne hv
    cases h
    obtain ⟨h1, h2⟩ := sResAll_ok (E := E) rs _ hv
    refine ⟨h1, ?_⟩
    match rs, vs, h2, hne with
    | [r], [v], _, hne => exact absurd rfl (hne v)
    | [r], [], h2, _ => simp [dens] at h2
    | [r], v :: v' :: vs, h2, _ => simp [dens] at h2
    | [], vs, h2, _ => simp only [SV.den, ← h2]; rfl
    | r :: r' :: rs, vs, h2, _ => simp only [SV.den, ← h2]; rfl
  · cases h

theorem sRet_ok {fn : Func} {o : SE} {y : SOut} {σ0 : Heap} {R : AV → Heap → Prop} (h : sRet X.P fn o = some y) (hR : RetV σ0 R (y.1.den E) (denH E y.2.1)) : retQ X.P σ0 fn R o.1 (denS E o.2) := by
  unfold sRet at h
  split at h
  · obtain ⟨v, hv, rfl⟩ := Option.map_eq_some_iff.1 h
    obtain ⟨h1, h2⟩ := sRes_ok (E := E) hv
    exact ⟨h1, by rw [h2]; exact hR⟩
  · obtain ⟨v, hv, rfl⟩ := Option.map_eq_some_iff.1 h
    obtain ⟨h1, h2⟩ := sRes_ok (E := E) hv
    exact ⟨h1, by rw [h2]; exact hR⟩
  · cases h

theorem Weak.take {σ0 σ : Heap} {ts : List AV} (k : Nat) {sz : Nat} {es : List (List AV)} (n : Nat) (hk : σ k = some (.row .lone sz es)) : Weak σ0 ⟨ts, σ⟩ ⟨ts, upd σ k (.row .lone sz (es.take n))⟩ := by
  intro ρ0 F0 W ρ F a w hE s
  refine ⟨ρ, F, s.defers, s.tmps, ⟨s.stp.keep, s.stp.fle, s.stp.ile, ⟨fun j => ?_, fun j b hb => ?_, s.stp.heap.inj, s.stp.heap.fzc, s.stp.heap.fzo⟩, s.stp.fr⟩⟩
  · by_cases h : j = k
    · subst h
      show upd σ j _ j = none ↔ _
      rw [upd_same]
      have := s.stp.heap.dom j
      simp only [hk] at this
      exact ⟨fun h => by simp at h, fun h => by simp at this; exact absurd h this⟩
    · show upd σ k _ j = none ↔ _
      rw [upd_ne _ h]
      exact s.stp.heap.dom j
  · by_cases h : j = k
    · subst h
      have hb' : upd σ j (.row .lone sz (es.take n)) j = some b := hb
      rw [upd_same] at hb'
      cases hb'
      have hB := s.stp.heap.blk j _ hk
      cases hB with
      | virt h ht => rw [List.take_nil]; exact .virt h ht
      | row h hb hl hs hz hc hf =>
        refine .row h hb (by rw [List.length_take]; omega) hs (fun x hx => hz x (List.mem_of_mem_take hx)) (fun i x hx => ?_) ?_
        · rw [List.getElem?_take] at hx
          split at hx
          · exact hc i x hx
          · cases hx
        · exact hf
    · have hb' : upd σ k (.row .lone sz (es.take n)) j = some b := hb
      rw [upd_ne _ h] at hb'
      exact s.stp.heap.blk j b hb'

theorem sTrim_weak (args : List SV) (o : SOut) {σ0 : Heap} : Weak σ0 ⟨[o.1.den E], denH E o.2.1⟩ ⟨[(sTrim args o).1.den E], denH E (sTrim args o).2.1⟩ := by
  unfold sTrim
  split
  · split
    · split
      · rename_i k off len x1 x y w h1 z es he
        cases hk : Nat.blt k 9223372036854775808 with
        | false => exact Weak.refl _ _
        | true =>
          have hk' : k < 9223372036854775808 := by simpa [nat_blt] using hk
          simp only [cond_true]
          rw [denH_upd E _ _ _ hk']
          have := Weak.take (σ0 := σ0) (ts := [o.1.den E]) k (off + len) (denH_some (E := E) he)
          simpa [SBlk.den] using this
      · exact Weak.refl _ _
    · exact Weak.refl _ _
  · exact Weak.refl _ _

theorem sCall_ok (hsp : SpecOk X E) {ih : Code → SS → Option (List SE)} (hi : ∀ c s outs, ih c s = some outs → RunOk X E c s outs) (hlow : ∀ c s outs, ih c s = some outs → ∀ o ∈ outs, Low s o.2) : CallOk X E (sCall X ih) := by
  intro f args h c outs hc
  unfold sCall at hc
  split at hc
  · rename_i x hx
    split at hc
    · rename_i hok
      cases hc
      obtain ⟨g1, g2⟩ := hsp f args h c x hx hok
      refine ⟨g1, fun ρ F w vs hv hh => (g2 ρ F w vs hv hh).mono fun e w' hq => ?_⟩
      obtain ⟨v, rfl, r, σ', ρ', F', ⟨rfl, rfl⟩, har, hs⟩ := hq
      exact ⟨v, rfl, _, _, ρ', F', ⟨_, List.mem_singleton.2 rfl, rfl, (denH_ups E x.2 h hok).symm⟩, har, hs⟩
    · cases hc
  · split at hc
    · rename_i fn hf
      split at hc
      · rename_i code hb
        obtain ⟨hca, hc⟩ := cond_some hc
        simp only [Bool.and_eq_true, nat_ble, decide_eq_true_eq] at hca
        obtain ⟨⟨hca, hlen⟩, hbig⟩ := hca
        split at hc
        · cases hc
        · rename_i outs1 ho
          split at hc
          · cases hc
          · rename_i l hl
            refine ⟨hca, FSpec.of_wp hf hb fun ρ F w a hE hs => ?_⟩
            have hst : (⟨dens E args ++ List.replicate (fn.ntmps - (dens E args).length) (.tup []), denH E h⟩ : St) = denS E ⟨⟨slT args 0 .lf, fn.ntmps⟩, h, c, big⟩ := by
              unfold denS
              rw [dts_start hlen hbig, dens_length]
            rw [hst] at hs
            have hlow1 : ∀ o ∈ l, ∀ k, k < o.2.2.2 → o.2.1.get k = h.get k := fun o hom k hk => by
              obtain ⟨x, hx, hr⟩ := (sRets_mem hl).1 o hom
              have := hlow _ _ _ ho x hx
              have e := sRet_low hr
              rw [e.1]
              exact this.same k (by rw [← e.2]; exact hk)
            refine wp_mono (hi _ _ _ ho ρ F w ρ F a w hE hs) fun e a w hq => ?_
            obtain ⟨st, ρ', F', s', o, hom, rfl, rfl⟩ := hq
            obtain ⟨y, hy, hr⟩ := (sRets_mem hl).2 o hom
            refine ⟨_, ρ', F', s', sRet_ok hr ?_⟩
            revert hc
            have hlow2 := sTrims_low (X := X) (f := f) (args := args) hlow1
            revert hlow2
            cases X.cuts f with
            | false => exact fun hlow2 hc => sMerge_ok hc hlow2 y hy
            | true => exact fun hlow2 hc => RetV.weak (sTrim_weak args y) (sMerge_ok hc hlow2 _ (List.mem_map_of_mem hy))
      · cases hc
    · cases hc

theorem LQ.mono {ρ0 : Inj} {F0 : Fz} {W : World} {Q Q' : Exit → St → Prop} (h : ∀ e st, Q e st → Q' e st) {e : Exit} {a : Act} {w : World} : LQ ρ0 F0 W Q e a w → LQ ρ0 F0 W Q' e a w :=
  fun ⟨st, ρ, F, s, q⟩ => ⟨st, ρ, F, s, h e st q⟩

include hlo hhi in
theorem sRun_ok (hm : X.P.follows .mixedOrders = true) (hsp : SpecOk X E) : ∀ (n : Nat) (c : Code) (s : SS) (outs : List SE), sRun X n c s = some outs →
    ∀ (ρ0 : Inj) (F0 : Fz) (W : World) (ρ : Inj) (F : Fz) (a : Act) (w : World), Sim ρ0 F0 W ρ F a w (denS E s) → c.wp X.P (LQ ρ0 F0 W fun e st => ∃ o ∈ outs, e = o.1 ∧ st = denS E o.2) a w := by
  intro n
  induction n using Nat.strongRecOn with
  | _ n IH =>
    intro c s outs h ρ0 F0 W ρ F a w hs
    cases n with
    | zero => cases h
    | succ n =>
      have hcall : CallOk X E (sCall X (sRun X n)) := sCall_ok hsp (fun c s outs h ρ0 F0 W ρ F a w _ hs => IH n (by omega) c s outs h ρ0 F0 W ρ F a w hs) (sRun_low n)
      have ih := IH n (by omega)
      have h' : sStepF X (sCall X (sRun X n)) (sRun X n) c s = some outs := h
      rw [sStepF_eq] at h'
      clear h
      cases c with
      | skip => cases h'; exact wp_skip ⟨_, ρ, F, hs, (.normal, s), by simp, rfl, rfl⟩
      | region id ops d =>
        obtain ⟨l, hl, rfl⟩ := Option.map_eq_some_iff.1 h'
        refine wp_mono (sRegion_ok hlo hhi hm hcall hl hs) fun e a w hq => LQ.mono (fun e st hq => ?_) hq
        obtain ⟨s', hs', rfl, rfl⟩ := hq
        exact ⟨exNormal s', List.mem_map.2 ⟨s', hs', rfl⟩, rfl, rfl⟩
      | seq x y =>
        simp only [sStep] at h'
        split at h'
        · cases h'
        · rename_i l hl
          refine wp_seq (wp_mono (ih x s l hl ρ0 F0 W ρ F a w hs) fun e a w hq => ?_)
          obtain ⟨st, ρ, F, s1, o, ho, rfl, rfl⟩ := hq
          obtain ⟨r, hr, hsub⟩ := (bindL_mem h').2 o ho
          obtain ⟨e, so⟩ := o
          cases e with
          | normal =>
            refine wp_mono (ih y so r hr ρ0 F0 W ρ F a w s1) fun e a w hq => LQ.mono (fun e st hq => ?_) hq
            obtain ⟨o', ho', h1, h2⟩ := hq
            exact ⟨o', hsub o' ho', h1, h2⟩
          | _ => cases hr; exact ⟨_, ρ, F, s1, _, hsub _ (by simp), rfl, rfl⟩
      | cond c x y =>
        simp only [sStep, sCond] at h'
        have hr := AR.evO hs.tmps c
        have hev : evO (denS E s).tmps c = (sEv s.ts c).den E := evO_den E s.ts c
        rw [hev] at hr
        split at h'
        · rename_i hv
          rw [hv] at hr
          have he : a.eval c = .bool true := by
            generalize a.eval c = V at hr
            cases hr with | t hr => cases hr; rfl
          exact wp_cond he (ih x s outs h' ρ0 F0 W ρ F a w hs)
        · rename_i hv
          rw [hv] at hr
          have he : a.eval c = .bool false := by
            generalize a.eval c = V at hr
            cases hr with | t hr => cases hr; rfl
          exact wp_cond he (ih y s outs h' ρ0 F0 W ρ F a w hs)
        · rename_i hv
          rw [hv] at hr
          split at h'
          · rename_i l m hl hm'
            cases h'
            generalize hV : a.eval c = V at hr
            cases hr with
            | bq b hp hq =>
              refine wp_cond hV ?_
              cases b with
              | true =>
                refine wp_mono (ih x s l hl ρ0 F0 W ρ F a w hs) fun e a w hq => LQ.mono (fun e st hq => ?_) hq
                obtain ⟨o, ho, h1, h2⟩ := hq
                exact ⟨o, List.mem_append.2 (.inl ho), h1, h2⟩
              | false =>
                refine wp_mono (ih y s m hm' ρ0 F0 W ρ F a w hs) fun e a w hq => LQ.mono (fun e st hq => ?_) hq
                obtain ⟨o, ho, h1, h2⟩ := hq
                exact ⟨o, List.mem_append.2 (.inr ho), h1, h2⟩
          · cases h'
        · rename_i hv
          rw [hv] at hr
          generalize hV : a.eval c = V at hr
          cases hr with
          | bq b hp hq =>
            cases b with
            | true => exact wp_cond hV (ih x s outs h' ρ0 F0 W ρ F a w hs)
            | false => exact absurd (hq rfl) (by simp)
        · rename_i hv
          rw [hv] at hr
          generalize hV : a.eval c = V at hr
          cases hr with
          | bq b hp hq =>
            cases b with
            | true => exact absurd (hp rfl) (by simp)
            | false => exact wp_cond hV (ih y s outs h' ρ0 F0 W ρ F a w hs)
        · cases h'
      | block id c =>
        obtain ⟨l, hl, rfl⟩ := Option.map_eq_some_iff.1 h'
        refine wp_block (wp_mono (ih c s l hl ρ0 F0 W ρ F a w hs) fun e a w hq => ?_)
        obtain ⟨st, ρ, F, s1, o, ho, rfl, rfl⟩ := hq
        obtain ⟨e, so⟩ := o
        cases e with
        | exit i =>
          simp only [Exit.inBlock]
          split
          · rename_i hi
            exact ⟨_, ρ, F, s1, (.normal, so), List.mem_map.2 ⟨_, ho, by simp [hi]⟩, rfl, rfl⟩
          · rename_i hi
            exact ⟨_, ρ, F, s1, (.exit i, so), List.mem_map.2 ⟨_, ho, by simp [hi]⟩, rfl, rfl⟩
        | _ => exact ⟨_, ρ, F, s1, _, List.mem_map.2 ⟨_, ho, rfl⟩, rfl, rfl⟩
      | loop c =>
        refine wp_loop_ghost (fun m a w => m ≤ n + 1 ∧ ∃ s ρ F r, Sim ρ0 F0 W ρ F a w (denS E s) ∧ sRun X m (.loop c) s = some r ∧ ∀ o ∈ r, o ∈ outs) (n + 1) ⟨Nat.le_refl _, s, ρ, F, outs, hs, h', fun o ho => ho⟩ fun m a w hI => ?_
        obtain ⟨hmn, s, ρ, F, r, hs, hr, hsub⟩ := hI
        cases m with
        | zero => cases hr
        | succ m =>
          have hr' : sStepF X (sCall X (sRun X m)) (sRun X m) (.loop c) s = some r := hr
          rw [sStepF_eq] at hr'
          simp only [sStep] at hr'
          split at hr'
          · cases hr'
          · rename_i l hl
            refine wp_mono (IH m (by omega) c s l hl ρ0 F0 W ρ F a w hs) fun e a w hq => ?_
            obtain ⟨st, ρ, F, s1, o, ho, rfl, rfl⟩ := hq
            obtain ⟨q, hq, hsub'⟩ := (bindL_mem hr').2 o ho
            obtain ⟨e, so⟩ := o
            cases e with
            | normal => exact ⟨m, by omega, by omega, so, ρ, F, q, s1, hq, fun o ho => hsub o (hsub' o ho)⟩
            | _ => cases hq; exact ⟨_, ρ, F, s1, _, hsub _ (hsub' _ (by simp)), rfl, rfl⟩
      | rangeFunc f ps x y => cases h'
      | exit id => cases h'; exact wp_exit ⟨_, ρ, F, hs, (.exit id, s), by simp, rfl, rfl⟩
      | scope c =>
        simp only [sStep] at h'
        split at h'
        · cases h'
        · rename_i l hl
          split at h'
          · rename_i hall
            cases h'
            refine wp_scope_straight (wp_mono (ih c s _ hl ρ0 F0 W ρ F a w hs) fun e a w hq => ?_)
            obtain ⟨st, ρ, F, s1, o, ho, rfl, rfl⟩ := hq
            have := List.all_eq_true.1 hall o ho
            obtain ⟨e, so⟩ := o
            cases e with
            | goto l => cases this
            | _ => exact ⟨_, ρ, F, s1, _, ho, rfl, rfl⟩
          · cases h'
      | label l => cases h'; exact wp_label ⟨_, ρ, F, hs, (.normal, s), by simp, rfl, rfl⟩
      | goto l => cases h'
      | ret => cases h'; exact wp_ret ⟨_, ρ, F, hs, (.ret, s), by simp, rfl, rfl⟩
      | refuse s => cases h'

include hlo hhi in
/-- A CALL, OUT OF AN EMPTY MEMORY, COMES TO TRUE -/
theorem true_of_run (hm : X.P.follows .mixedOrders = true) (hsp : SpecOk X E) {n f : Nat} {args : List SV} (h : isTrue (sTop X n f args) = true) :
    FSpec X.P f (dens E args) emp fun r _ => r = .t (.bool true) := by
  unfold sTop at h
  cases hc : sCall X (sRun X n) f args .lf 1 with
  | none => rw [hc] at h; cases h
  | some l =>
    rw [hc] at h
    have := (sCall_ok hsp (fun c s outs h ρ0 F0 W ρ F a w _ hs => sRun_ok hlo hhi hm hsp n c s outs h ρ0 F0 W ρ F a w hs) (sRun_low n) f args .lf 1 l hc).2
    have he : denH E .lf = emp := by funext k; rfl
    rw [he] at this
    intro ρ F w vs hv hh
    refine (this ρ F w vs hv hh).mono fun e w' hq => ?_
    obtain ⟨v, rfl, r, σ', ρ', F', ⟨o, ho, rfl, rfl⟩, har, hs⟩ := hq
    refine ⟨v, rfl, _, _, ρ', F', ?_, har, hs⟩
    have := List.all_eq_true.1 h o ho
    revert this
    split
    · rename_i hv; intro _; rw [hv]; rfl
    · intro h; cases h

end

end Go.Dm
