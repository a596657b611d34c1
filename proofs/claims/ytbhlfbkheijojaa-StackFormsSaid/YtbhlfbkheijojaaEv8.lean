/-
  What a call leaves, told by itself.
  Conditions: none.
-/
import Derived.Test.YtbhlfbkheijojaaEv7
namespace Go.Dm

theorem FSpec.of_wp {P : Program} {f : FuncId} {fn : Func} {c : Code} {args : List AV} {σ : Heap} {R : AV → Heap → Prop} (hf : P.funcs[f]? = some fn) (hb : fn.body = some c)
    (h : ∀ (ρ : Inj) (F : Fz) (w : World) (a : Act), (∀ k, σ k = .none → ρ k = .none) → Sim ρ F w ρ F a w ⟨args ++ List.replicate (fn.ntmps - args.length) (.tup []), σ⟩ → c.wp P (LQ ρ F w (retQ P σ fn R)) a w) : FSpec P f args σ R := by
  intro ρ F w vs hv hh
  refine calls_of_wp hf hb ?_
  have hs : Sim ρ F w ρ F { tmps := vs ++ Array.replicate (fn.ntmps - vs.size) undef, defers := [] } w ⟨args ++ List.replicate (fn.ntmps - args.length) (.tup []), σ⟩ := by
    refine ⟨rfl, ⟨by simp [hv.1], fun i v a h1 h2 => ?_⟩, Stp.refl hh⟩
    by_cases hi : i < args.length
    · rw [Array.getElem?_append_left (by rw [hv.1]; exact hi)] at h1
      rw [List.getElem?_append_left hi] at h2
      exact hv.2 i v a h1 h2
    · rw [Array.getElem?_append_right (by rw [hv.1]; omega)] at h1
      rw [List.getElem?_append_right (by omega)] at h2
      rw [Array.getElem?_replicate] at h1
      rw [List.getElem?_replicate] at h2
      split at h1
      · split at h2
        · cases h1; cases h2
          exact .tup rfl fun i v a h _ => by simp at h
        · cases h2
      · cases h1
  refine wp_mono (h ρ F w _ (fun k => (hh.dom k).1) hs) fun e a w' hq => ?_
  obtain ⟨st, ρ', F', s, hr⟩ := hq
  have fin : resDom P st fn.results.toList ∧ RetV σ R (resVal P st fn.results.toList) st.σ → a.defers = [] ∧ ∃ v, (results fn a.tmps).run P w' = .ok v w' ∧ ∃ v', Ending.returned v = .returned v' ∧ ∃ r σ' ρ' F', R r σ' ∧ AR ρ' F' w' v' r ∧ Stp ρ F w ρ' F' w' σ' := fun hr => by
    obtain ⟨hd, r', σ', hw, hR⟩ := hr
    obtain ⟨v, h1, h2⟩ := results_sound s.tmps s.stp.heap hd
    have s1 : Sim ρ F w ρ' F' { tmps := #[v], defers := [] } w' ⟨[resVal P st fn.results.toList], st.σ⟩ := ⟨rfl, ⟨rfl, fun i x y hx hy => by
      cases i with
      | zero => simp at hx hy; subst hx; subst hy; exact h2
      | succ i => simp at hy⟩, s.stp⟩
    obtain ⟨ρ'', F'', s2⟩ := hw _ _ _ _ _ _ _ (fun k => (hh.dom k).1) s1
    exact ⟨s.defers, v, h1, v, rfl, _, _, _, _, hR, s2.tmps.2 0 v r' rfl rfl, s2.stp⟩
  cases e with
  | normal => exact fin hr
  | ret => exact fin hr
  | _ => exact hr.elim

/-- blocks below c, and one more: where its key lies -/
theorem Weak.cut {σ0 σ σ' : Heap} {c : Nat} {r r' : AV} (j : Nat) (hj : c ≤ j) (h0 : ∀ k, σ0 k ≠ none → k < c) (h1 : ∀ k, k < c → σ' k = σ k) (h2 : ∀ k, c < k → σ' k = none)
    (hb : ∀ k b, k < c → σ k = some b → blkIn (List.range c) b)
    (hc : (σ' c = none ∧ inK (List.range c) r = true ∧ r' = r) ∨ ∃ tag sz es off len tg, σ' c = some (.row tag sz es) ∧ σ j = some (.row tag sz es) ∧ (∀ e ∈ es, inKs (List.range c) e = true) ∧ r = .own j off len tg ∧ r' = .own c off len tg) :
    Weak σ0 ⟨[r], σ⟩ ⟨[r'], σ'⟩ := by
  intro ρ0 F0 W ρ F a w hE s
  let ρ' : Inj := fun k => if k < c then ρ k else if k = c ∧ σ' c ≠ none then ρ j else none
  have e1 : ∀ k, k < c → ρ' k = ρ k := fun k hk => if_pos hk
  have e2 : ∀ k, c < k → ρ' k = none := fun k hk => by
    show (if k < c then ρ k else if k = c ∧ σ' c ≠ none then ρ j else none) = none
    rw [if_neg (by omega), if_neg (by omega)]
  have e3 : σ' c ≠ none → ρ' c = ρ j := fun h => by
    show (if c < c then ρ c else if c = c ∧ σ' c ≠ none then ρ j else none) = ρ j
    rw [if_neg (by omega), if_pos ⟨rfl, h⟩]
  have e4 : σ' c = none → ρ' c = none := fun h => by
    show (if c < c then ρ c else if c = c ∧ σ' c ≠ none then ρ j else none) = none
    rw [if_neg (by omega), if_neg (by simp [h])]
  have hρ : ∀ k, (List.range c).contains k = true → ρ' k = ρ k := fun k hk => e1 k (by simpa using hk)
  have inv : ∀ k p, ρ' k = some p → (k < c ∧ ρ k = some p) ∨ (k = c ∧ ρ j = some p) := fun k p h => by
    rcases Nat.lt_trichotomy k c with hk | hk | hk
    · exact .inl ⟨hk, (e1 k hk).symm.trans h⟩
    · subst hk
      by_cases hn : σ' k = none
      · rw [e4 hn] at h; cases h
      · exact .inr ⟨rfl, (e3 hn).symm.trans h⟩
    · rw [e2 k hk] at h; cases h
  have hh : HR ρ F w σ := s.stp.heap
  have hjrow : ∀ tag sz es, σ j = some (.row tag sz es) → (∀ e ∈ es, inKs (List.range c) e = true) → σ' c = some (.row tag sz es) → BR ρ' F w c (.row tag sz es) := fun tag sz es hσ hin hσ' => by
    have e := e3 (by rw [hσ']; simp)
    cases hh.blk j _ hσ with
    | virt h ht => exact .virt (e.trans h) ht
    | row h hb1 hl hs hz hcc hf =>
      refine .row (e.trans h) hb1 hl hs hz (fun i x hx q b hb => ?_) hf
      obtain ⟨v, g1, g2⟩ := hcc i x hx q b hb
      exact ⟨v, g1, g2.res hρ (inKs_get (hin x (List.mem_of_getElem? hx)) hb)⟩
  have hH : HR ρ' F w σ' := by
    refine ⟨fun k => ?_, fun k b hk => ?_, fun k k' p p' b hk hk' hp hp' => ?_, hh.fzc, hh.fzo⟩
    · rcases Nat.lt_trichotomy k c with hk | hk | hk
      · rw [e1 k hk, h1 k hk]; exact hh.dom k
      · subst hk
        rcases hc with ⟨hc1, _, _⟩ | ⟨tag, sz, es, off, len, tg, hc1, hc2, _⟩
        · rw [e4 hc1, hc1]; simp
        · have hn : ρ j ≠ none := fun e => by have := (hh.dom j).2 e; rw [hc2] at this; cases this
          rw [e3 (by rw [hc1]; simp), hc1]; simp [hn]
      · rw [e2 k hk, h2 k hk]; simp
    · rcases Nat.lt_trichotomy k c with hkc | hkc | hkc
      · rw [h1 k hkc] at hk
        exact BR.res hρ (by simpa using hkc) (hb k b hkc hk) (hh.blk k b hk)
      · subst hkc
        rcases hc with ⟨hc1, _, _⟩ | ⟨tag, sz, es, off, len, tg, hc1, hc2, hc3, _⟩
        · rw [hc1] at hk; cases hk
        · rw [hc1] at hk; cases hk; exact hjrow _ _ _ hc2 hc3 hc1
      · rw [h2 k hkc] at hk; cases hk
    · rcases inv k p hk with ⟨a1, a2⟩ | ⟨a1, a2⟩
      · rcases inv k' p' hk' with ⟨b1, b2⟩ | ⟨b1, b2⟩
        · exact hh.inj k k' p p' b a2 b2 hp hp'
        · have := hh.inj k j p p' b a2 b2 hp hp'; omega
      · rcases inv k' p' hk' with ⟨b1, b2⟩ | ⟨b1, b2⟩
        · have := hh.inj j k' p p' b a2 b2 hp hp'; omega
        · rw [a1, b1]
  refine ⟨ρ', F, s.defers, ⟨s.tmps.1, fun i v x hv hx => ?_⟩, s.stp.keep, s.stp.fle, fun k p hk => ?_, hH, fun W F0 U y => ?_⟩
  · cases i with
    | succ i => simp at hx
    | zero =>
      simp at hx
      subst hx
      have hr := s.tmps.2 0 v r hv rfl
      rcases hc with ⟨_, hc2, rfl⟩ | ⟨tag, sz, es, off, len, tg, hc1, hc2, hc3, rfl, rfl⟩
      · exact hr.res hρ hc2
      · have e := e3 (by rw [hc1]; simp)
        cases hr with
        | own h hl => exact .own (e.trans h) hl
        | ownVirt a h => exact .ownVirt a (e.trans h)
        | ownZero a h hl hz => exact .ownZero a (e.trans h) hl hz
        | ownDead a l cc h hn => exact .ownDead a l cc (e.trans h) hn
  · have hkc : k < c := h0 k fun e => by rw [hE k e] at hk; cases hk
    rw [e1 k hkc]
    exact s.stp.ile k p hk
  · have z := s.stp.fr W F0 U y
    refine ⟨z.os, z.tape, z.output, z.size, z.same, z.keep, z.fle, z.fnew, z.onew, fun k p b hk hb => ?_⟩
    rcases inv k p hk with ⟨_, a2⟩ | ⟨_, a2⟩
    · exact z.own k p b a2 hb
    · exact z.own j p b a2 hb

theorem allK_ok {f : Nat → SBlk → Bool} : ∀ (t : TH) (a b : Nat), allK f a b t = true → ∀ k x, t.get k = some x → f (a * k + b) x = true
  | .lf, a, b, _, k, x, h => by cases h
  | .nd l v r, a, b, hf, 0, x, h => by
    simp only [allK, Bool.and_eq_true] at hf
    rw [Tr.get_zero] at h
    have hv : v = some x := h
    rw [hv] at hf
    simpa using hf.1.1
  | .nd l v r, a, b, hf, k + 1, x, h => by
    simp only [allK, Bool.and_eq_true] at hf
    rw [Tr.get_succ, beq_mod] at h
    by_cases hk : k % 2 = 0
    · simp only [hk, decide_true, cond_true] at h
      have := allK_ok l (2 * a) (a + b) hf.1.2 (k / 2) x h
      have e : 2 * a * (k / 2) + (a + b) = a * (k + 1) + b := by
        have h2 : k = 2 * (k / 2) := by omega
        have : 2 * a * (k / 2) = a * (2 * (k / 2)) := by rw [← Nat.mul_assoc, Nat.mul_comm a 2]
        rw [this, ← h2, Nat.mul_add, Nat.mul_one]; omega
      rw [e] at this; exact this
    · simp only [hk, decide_false, cond_false] at h
      have := allK_ok r (2 * a) (2 * a + b) hf.2 (k / 2) x h
      have e : 2 * a * (k / 2) + (2 * a + b) = a * (k + 1) + b := by
        have h2 : k = 2 * (k / 2) + 1 := by omega
        have h3 : 2 * a * (k / 2) = a * (2 * (k / 2)) := by rw [← Nat.mul_assoc, Nat.mul_comm a 2]
        have h4 : a * (k + 1) = a * (2 * (k / 2)) + a * 2 := by rw [← Nat.mul_add]; congr 1; omega
        rw [h3, h4]; omega
      rw [e] at this; exact this

theorem allK_spec {f : Nat → SBlk → Bool} {t : TH} (h : allK f 1 0 t = true) {k : Nat} {x : SBlk} (hx : t.get k = some x) : f k x = true := by
  have := allK_ok t 1 0 h k x hx
  simpa using this

mutual
theorem below_den (E : Env) (c : Nat) : ∀ v : SV, below c v = true → inK (List.range c) (v.den E) = true
  | .ptr k _ _, h => by simpa [below, SV.den, inK] using h
  | .own k _ _ _, h => by simpa [below, SV.den, inK] using h
  | .mapr k, h => by simpa [below, SV.den, inK] using h
  | .it k, h => by simpa [below, SV.den, inK] using h
  | .agg l, h => by simp only [SV.den, inK]; exact belows_den E c l h
  | .tup l, h => by simp only [SV.den, inK]; exact belows_den E c l h
  | .fn _ a b, h => by
    simp only [below, Bool.and_eq_true] at h
    simp only [SV.den, inK, Bool.and_eq_true]
    exact ⟨belows_den E c a h.1, belows_den E c b h.2⟩
  | .bool _, _ => rfl
  | .int _ _, _ => rfl
  | .lin _ _, _ => rfl
  | .str _, _ => rfl
  | .nilp, _ => rfl
  | .nilmap, _ => rfl
  | .nilsl, _ => rfl
  | .emp, _ => rfl
  | .any, _ => rfl
  | .opq, _ => rfl
  | .bq _ _, _ => rfl
theorem belows_den (E : Env) (c : Nat) : ∀ l : List SV, belows c l = true → inKs (List.range c) (dens E l) = true
  | [], _ => rfl
  | a :: r, h => by
    simp only [belows, Bool.and_eq_true] at h
    simp only [dens, inKs, Bool.and_eq_true]
    exact ⟨below_den E c a h.1, belows_den E c r h.2⟩
end
theorem belowBlk_den (E : Env) (c : Nat) (b : SBlk) (h : belowBlk c b = true) : blkIn (List.range c) (b.den E) := by
  cases b with
  | dead => trivial
  | row t sz es =>
    intro e he
    obtain ⟨x, hx, rfl⟩ := List.mem_map.1 he
    exact belows_den E c x (List.all_eq_true.1 h x hx)
  | mapl kd es cl =>
    intro x hx
    obtain ⟨y, hy, rfl⟩ := List.mem_map.1 hx
    exact below_den E c _ (List.all_eq_true.1 h y hy)
  | itl src a b cl => exact below_den E c src h

mutual
theorem sveq_ok : ∀ a b : SV, sveq a b = true → a = b
  | .bool a, .bool b, h => by simp [sveq] at h; rw [h]
  | .int k a, .int k' a', h => by simp [sveq, kEq_eq, iEq_eq] at h; rw [h.1, h.2]
  | .lin a b, .lin a' b', h => by simp [sveq, iEq_eq] at h; rw [h.1, h.2]
  | .str a, .str b, h => by simp [sveq] at h; rw [h]
  | .nilp, .nilp, _ => rfl
  | .nilmap, .nilmap, _ => rfl
  | .nilsl, .nilsl, _ => rfl
  | .emp, .emp, _ => rfl
  | .any, .any, _ => rfl
  | .opq, .opq, _ => rfl
  | .ptr a b c, .ptr a' b' c', h => by simp [sveq] at h; rw [h.1.1, h.1.2, h.2]
  | .own a b c d, .own a' b' c' d', h => by simp [sveq] at h; rw [h.1.1.1, h.1.1.2, h.1.2, h.2]
  | .mapr a, .mapr b, h => by simp [sveq] at h; rw [h]
  | .it a, .it b, h => by simp [sveq] at h; rw [h]
  | .agg a, .agg b, h => by rw [sveqs_ok a b (by simpa [sveq] using h)]
  | .tup a, .tup b, h => by rw [sveqs_ok a b (by simpa [sveq] using h)]
theorem sveqs_ok : ∀ a b : List SV, sveqs a b = true → a = b
  | [], [], _ => rfl
  | [], _ :: _, h => by simp [sveqs] at h
  | _ :: _, [], h => by simp [sveqs] at h
  | a :: r, b :: s, h => by
    simp only [sveqs, Bool.and_eq_true] at h
    rw [sveq_ok a b h.1, sveqs_ok r s h.2]
end
theorem sveqss_ok : ∀ a b : List (List SV), sveqss a b = true → a = b
  | [], [], _ => rfl
  | [], _ :: _, h => by simp [sveqss] at h
  | _ :: _, [], h => by simp [sveqss] at h
  | a :: r, b :: s, h => by
    simp only [sveqss, Bool.and_eq_true] at h
    rw [sveqs_ok a b h.1, sveqss_ok r s h.2]
theorem tagEq_ok {a b : Tag} (h : tagEq a b = true) : a = b := by cases a <;> cases b <;> simp [tagEq] at h <;> rfl

/-- what some calls' ends are told to be -/
theorem sMerge_ok {E : Env} {h : TH} {c : Nat} {l outs : List SOut} (hm : sMerge h c l = some outs) (hl : ∀ o ∈ l, ∀ k, k < o.2.2.2 → o.2.1.get k = h.get k) :
    ∀ o ∈ l, RetV (denH E h) (fun r σ' => ∃ o ∈ outs, r = o.1.den E ∧ σ' = denH E o.2.1) (o.1.den E) (denH E o.2.1) := by
  unfold sMerge at hm
  split at hm
  · cases hm
  · cases hm
    intro o ho
    exact RetV.now ⟨o, ho, rfl, rfl⟩
  · rename_i x y r
    split at hm
    · rename_i hb
      simp only [Bool.and_eq_true, decide_eq_true_eq] at hb
      split at hm
      · rename_i z hz
        split at hm
        · rename_i hall
          cases hm
          intro o ho
          have hs := List.all_eq_true.1 hall o ho
          simp only [sSame, Bool.and_eq_true, decide_eq_true_eq] at hs
          obtain ⟨hlow, hs⟩ := hs
          have hkey : ∀ k b, h.get k = some b → k < c ∧ belowBlk c b = true := fun k b hk => by
            have := allK_spec hb.1 hk
            simpa [nat_blt] using this
          have hnone : ∀ k, c ≤ k → h.get k = none := fun k hk => by
            cases hg : h.get k with
            | none => rfl
            | some b => have := (hkey k b hg).1; omega
          have hold : ∀ k, k < c → o.2.1.get k = h.get k := fun k hk => hl o ho k (by omega)
          have hblk : ∀ k b, k < c → denH E o.2.1 k = some b → blkIn (List.range c) b := fun k b hk hd => by
            unfold denH at hd
            rw [hold k hk, Option.map_eq_some_iff] at hd
            obtain ⟨x, hx, rfl⟩ := hd
            exact belowBlk_den E c x (hkey k x hx).2
          have h0 : ∀ k, denH E h k ≠ none → k < c := fun k hk => by
            rcases Nat.lt_or_ge k c with h1 | h1
            · exact h1
            · exact absurd (denH_none (hnone k h1)) hk
          split at hs
          · rename_i v bo hcan
            simp only [Bool.and_eq_true] at hs
            have hv := sveq_ok _ _ hs.1
            obtain ⟨z1, z2⟩ := z
            simp only at hv hs
            subst hv
            -- the canonical form
            unfold sCanon at hcan
            cases z2 with
            | none =>
              have hbo : bo = none := by
                cases bo with
                | none => rfl
                | some q => simp at hs
              subst hbo
              have hval : o.1 = z1 ∧ below c o.1 = true := by
                split at hcan
                · rename_i k off len tg e
                  split at hcan
                  · rename_i hk
                    simp only [Option.some.injEq, Prod.mk.injEq] at hcan
                    exact ⟨hcan.1, by rw [e]; simp [below, hk]⟩
                  · split at hcan
                    · split at hcan <;> cases hcan
                    · cases hcan
                · split at hcan
                  · rename_i hbl
                    simp only [Option.some.injEq, Prod.mk.injEq] at hcan
                    exact ⟨hcan.1, hbl⟩
                  · cases hcan
              refine ⟨o.1.den E, denH E h, Weak.cut c (Nat.le_refl _) h0 (fun k hk => ?_) (fun k hk => denH_none (hnone k (by omega))) hblk (.inl ⟨denH_none (hnone c (Nat.le_refl _)), below_den E c _ hval.2, rfl⟩), _, List.mem_singleton.2 rfl, by rw [hval.1], rfl⟩
              unfold denH; rw [hold k hk]
            | some q =>
              obtain ⟨t, n, es⟩ := q
              cases bo with
              | none => simp at hs
              | some q' =>
                obtain ⟨t', n', es'⟩ := q'
                simp only [Bool.and_eq_true, beq_iff_eq] at hs
                obtain ⟨_, ⟨ht, hn⟩, hes⟩ := hs
                have ht := tagEq_ok ht
                have hes := sveqss_ok _ _ hes
                subst ht; subst hn; subst hes
                split at hcan
                · rename_i k off len tg e
                  split at hcan
                  · simp at hcan
                  · rename_i hk
                    split at hcan
                    · rename_i tag sz es2 hget
                      split at hcan
                      · rename_i hbel
                        simp only [Option.some.injEq, Prod.mk.injEq] at hcan
                        obtain ⟨rfl, rfl, rfl, rfl⟩ := hcan
                        have hset : ∀ i, (Tr.set (SBlk.row tag sz es2) 64 h c).get i = if i = c then some (SBlk.row tag sz es2) else h.get i := fun i => Tr.get_set64 _ h i hb.2
                        refine ⟨.own c off len tg, denH E (Tr.set (SBlk.row tag sz es2) 64 h c), Weak.cut k (by omega) h0 (fun i hi => ?_) (fun i hi => ?_) hblk (.inr ⟨tag, sz, es2.map (dens E), off, len, tg, ?_, denH_some hget, ?_, by rw [e]; rfl, rfl⟩), _, List.mem_singleton.2 rfl, rfl, rfl⟩
                        · unfold denH; rw [hset, if_neg (by omega), hold i hi]
                        · unfold denH; rw [hset, if_neg (by omega), hnone i (by omega)]; rfl
                        · unfold denH; rw [hset, if_pos rfl]; rfl
                        · intro x hx
                          obtain ⟨u, hu, rfl⟩ := List.mem_map.1 hx
                          exact belows_den E c u (List.all_eq_true.1 hbel u hu)
                      · cases hcan
                    · cases hcan
                · split at hcan <;> simp at hcan
          · cases hs
        · cases hm
      · cases hm
    · cases hm

end Go.Dm
