/-
  Slicing, lengths, made slices.
  Conditions: none.
-/
import Derived.Test.YtbhlfbkheijojaaEng6
namespace Go.Dm

def optI (d : Int) : Option AV → Option Int
  | none => some d
  | some (.t (.int _ n)) => some n
  | _ => none

def aSlice (sz : Nat) (x : AV) (lo hi mx : Option AV) (σ : Heap) : PV AV :=
  match x with
  | .own k off len tg =>
    match σ k, optI 0 lo, optI len hi, mx with
    | some (.row _ z es), some l, some h, none =>
      if tg then ⟨0 ≤ l ∧ l ≤ h ∧ h = len ∧ z = sz, .own k (off + l.toNat) (h.toNat - l.toNat) true⟩
      else ⟨0 ≤ l ∧ l ≤ h ∧ (h ≤ len ∨ off + h ≤ es.length) ∧ z = sz, .own k (off + l.toNat) (h.toNat - l.toNat) false⟩
    | some (.row _ z es), some l, some h, some (.t (.int _ m)) =>
      ⟨0 ≤ l ∧ l ≤ h ∧ h ≤ m ∧ (m ≤ len ∨ (tg = false ∧ off + m ≤ es.length)) ∧ z = sz, if h = m then .own k (off + l.toNat) (h.toNat - l.toNat) true else .any⟩
    | _, _, _, _ => noV
  | .t (.rows es) =>
    match optI 0 lo, optI es.length hi, mx with
    | some l, some h, none => ⟨0 ≤ l ∧ l ≤ h ∧ h ≤ es.length, .t (.rows ((es.drop l.toNat).take (h.toNat - l.toNat)))⟩
    | some l, some h, some (.t (.int _ m)) =>
      ⟨0 ≤ l ∧ l ≤ h ∧ h ≤ m ∧ m ≤ es.length, if h = m then .tsl ((es.drop l.toNat).take (h.toNat - l.toNat)) else .any⟩
    | _, _, _ => noV
  | .tsl es =>
    match optI 0 lo, optI es.length hi, mx with
    | some l, some h, none => ⟨0 ≤ l ∧ l ≤ h ∧ h ≤ es.length, if h = es.length then .tsl ((es.drop l.toNat).take (h.toNat - l.toNat)) else .t (.rows ((es.drop l.toNat).take (h.toNat - l.toNat)))⟩
    | some l, some h, some (.t (.int _ m)) =>
      ⟨0 ≤ l ∧ l ≤ h ∧ h ≤ m ∧ m ≤ es.length, if h = m then .tsl ((es.drop l.toNat).take (h.toNat - l.toNat)) else .any⟩
    | _, _, _ => noV
  | .t (.str s) =>
    match optI 0 lo, optI s.size hi, mx with
    | some l, some h, none => ⟨0 ≤ l ∧ l ≤ h ∧ h ≤ s.size, .t (.str (s.extract l.toNat h.toNat))⟩
    | _, _, _ => noV
  | _ => noV

/-- two bounds that are told, or not -/
theorem optI_run {P : Program} {ρ : Inj} {F : Fz} {w : World} {d : Int} {o : Option AV} {O : Option Value} {n : Int} (ho : ∀ a, o = some a → ∃ V, O = some V ∧ AR ρ F w V a) (hn : o = none → O = none) (h : optI d o = some n) :
    (o = none ∧ O = none ∧ n = d) ∨ ∃ k, O = some (.int k n) ∧ ∀ y code, 0 ≤ n → n ≤ (y : Nat) → (Instr.sliceBound (.int k n) y code).run P w = .ok n.toNat w := by
  unfold optI at h
  split at h
  · simp only [Option.some.injEq] at h
    exact .inl ⟨rfl, hn rfl, h.symm⟩
  · rename_i k m
    simp only [Option.some.injEq] at h
    subst h
    obtain ⟨V, hV, hr⟩ := ho _ rfl
    cases hr with | t hr =>
    cases hr
    refine .inr ⟨k, hV, fun y code h0 h1 => ?_⟩
    simp [Instr.sliceBound, asIntOf, h0, h1]
  · cases h

/-- the bounds that the model takes -/
theorem bounds_run {P : Program} {ρ : Inj} {F : Fz} {w : World} {isS : Bool} {len cap : Nat} {lo hi mx : Option AV} {LO HI MX : Option Value} {l h : Int}
    (hlo : ∀ a, lo = some a → ∃ V, LO = some V ∧ AR ρ F w V a) (hlo' : lo = none → LO = none) (hhi : ∀ a, hi = some a → ∃ V, HI = some V ∧ AR ρ F w V a) (hhi' : hi = none → HI = none)
    (hl : optI 0 lo = some l) (hh : optI len hi = some h) (hm : mx = none) (hm' : mx = none → MX = none) (h0 : 0 ≤ l) (h1 : l ≤ h) (h2 : h ≤ cap) :
    (Instr.sliceBounds isS len cap LO HI MX).run P w = .ok (l.toNat, h.toNat, cap) w := by
  have hM := hm' hm
  subst hM
  unfold Instr.sliceBounds
  rcases optI_run (P := P) hhi hhi' hh with ⟨_, e2, e3⟩ | ⟨k, e2, e3⟩
  · subst e2; subst e3
    rcases optI_run (P := P) hlo hlo' hl with ⟨_, e5, e6⟩ | ⟨k', e5, e6⟩
    · subst e5; subst e6; simp
    · subst e5; simp [e6 _ _ h0 h1]
  · subst e2
    have hb := e3 cap (if isS then .sliceAcap else .sliceAlen) (by omega) h2
    rcases optI_run (P := P) hlo hlo' hl with ⟨_, e5, e6⟩ | ⟨k', e5, e6⟩
    · subst e5; subst e6; simp [hb]
    · subst e5; simp [hb, e6 h.toNat .sliceB h0 (by omega)]

theorem bounds_run3 {P : Program} {ρ : Inj} {F : Fz} {w : World} {isS : Bool} {len cap : Nat} {lo hi mx : Option AV} {LO HI MX : Option Value} {l h m : Int} {km : IntKind}
    (hlo : ∀ a, lo = some a → ∃ V, LO = some V ∧ AR ρ F w V a) (hlo' : lo = none → LO = none) (hhi : ∀ a, hi = some a → ∃ V, HI = some V ∧ AR ρ F w V a)
    (hl : optI 0 lo = some l) (hh : optI len hi = some h) (hih : hi ≠ none) (hm : mx = some (.t (.int km m))) (hm' : ∀ a, mx = some a → ∃ V, MX = some V ∧ AR ρ F w V a) (h0 : 0 ≤ l) (h1 : l ≤ h) (h2 : h ≤ m) (h3 : m ≤ cap) :
    (Instr.sliceBounds isS len cap LO HI MX).run P w = .ok (l.toNat, h.toNat, m.toNat) w := by
  obtain ⟨M, hM, hMr⟩ := hm' _ hm
  cases hMr with | t hMr =>
  cases hMr
  subst hM
  unfold Instr.sliceBounds
  have hbm : ∀ code, (Instr.sliceBound (.int km m) cap code).run P w = .ok m.toNat w := fun code => by
    have : 0 ≤ m ∧ m ≤ (cap : Int) := ⟨by omega, h3⟩
    simp [Instr.sliceBound, asIntOf, this]
  rcases optI_run (P := P) hhi (fun e => absurd e hih) hh with ⟨e2, _, _⟩ | ⟨k, e2, e3⟩
  · exact absurd e2 hih
  · subst e2
    have hb := fun code => e3 m.toNat code (by omega) (by omega)
    rcases optI_run (P := P) hlo hlo' hl with ⟨_, e5, e6⟩ | ⟨k', e5, e6⟩
    · subst e5; subst e6; simp [hb, hbm]
    · subst e5; simp [hb, hbm, e6 h.toNat .slice3C h0 (by omega)]

theorem HR.sz {ρ : Inj} {F : Fz} {w : World} {σ : Heap} (hh : HR ρ F w σ) {k : Nat} {tag : Tag} {z : Nat} {es : List (List AV)} (hk : σ k = some (.row tag z es)) {b base sz ct : Nat} (hρ : ρ k = some (.at_ b base sz ct)) :
    z = sz ∧ es.length ≤ ct ∧ ∃ c e, w.heap[b]? = some (.cells c e (0, 0)) ∧ base + ct * sz ≤ c.size ∧ (∀ x ∈ es, x.length = sz) ∧ CellsAre ρ F w c base sz es ∧ FzOk F b tag (base + es.length * sz) := by
  cases hh.blk k _ hk with
  | virt h _ => rw [h] at hρ; cases hρ
  | row h1 hb hl hs hz hc hf =>
    have e0 := h1.symm.trans hρ
    simp only [Option.some.injEq, Pl.at_.injEq] at e0
    obtain ⟨rfl, rfl, rfl, rfl⟩ := e0
    exact ⟨rfl, hl, _, _, hb, hs, hz, hc, hf⟩

theorem HR.live {ρ : Inj} {F : Fz} {w : World} {σ : Heap} (hh : HR ρ F w σ) {k : Nat} {tag : Tag} {z : Nat} {es : List (List AV)} (hk : σ k = some (.row tag z es)) : ρ k ≠ some .dead := by
  cases hh.blk k _ hk with
  | virt h _ => rw [h]; simp
  | row h1 hb hl hs hz hc hf => rw [h1]; simp

/-- the slice of a row, as the model makes it -/
theorem slice_own {P : Program} {ρ : Inj} {F : Fz} {w : World} {t e : TypeId} {inf : TypeInfo} {k off len : Nat} {tg : Bool} {X : Value} {LO HI MX : Option Value} {l h m : Nat}
    (ht : P.underlying t = some (.slice e)) (hi : P.info? e = some inf) (hsz : ∀ b base sz ct, ρ k = some (.at_ b base sz ct) → sz = inf.size) (hx : AR ρ F w X (.own k off len tg)) (hlive : ρ k ≠ some .dead)
    (hb : ∀ cap, (∃ a, X = .slice a len cap) → (Instr.sliceBounds true len cap LO HI MX).run P w = .ok (l, h, m) w) (h1 : l ≤ h) (h2 : h ≤ m) (hm : ∀ cap, (∃ a, X = .slice a len cap) → m ≤ cap)
    (tg' : Bool) (htg : tg' = true → h = m) (htg2 : tg' = false → tg = false ∧ ∀ cap, (∃ a, X = .slice a len cap) → m = cap) :
    ∃ v, (Instr.sliceAt t X LO HI MX).run P w = .ok v w ∧ AR ρ F w v (.own k (off + l) (h - l) tg') := by
  have run : ∀ a cap, X = .slice a len cap → (Instr.sliceAt t X LO HI MX).run P w = .ok (.slice (if m = l then a else a.map (·.add (l * inf.size))) (h - l) (m - l)) w := fun a cap hX => by
    have := hb cap ⟨a, hX⟩
    subst hX
    simp [Instr.sliceAt, Instr.slice, run_underlying ht, this, sizeOf, typeInfo, hi]
  cases hx with
  | ownDead a l c hq _ => exact absurd hq hlive
  | ownVirt a hq =>
    have := hm 0 ⟨a, rfl⟩
    have hl : l = 0 := by omega
    have hm0 : m = 0 := by omega
    have hh0 : h = 0 := by omega
    subst hl; subst hm0; subst hh0
    exact ⟨_, run a 0 rfl, by simpa using AR.ownVirt a hq⟩
  | ownZero a hplace hl hz =>
    have := hm 0 ⟨a, rfl⟩
    have hl0 : l = 0 := by omega
    have hm0 : m = 0 := by omega
    have hh0 : h = 0 := by omega
    subst hl0; subst hm0; subst hh0
    refine ⟨_, run a 0 rfl, ?_⟩
    simp only [if_true, Nat.sub_self, Nat.add_zero]
    refine AR.ownZero a hplace hl ?_
    cases tg' with
    | true => exact .inr rfl
    | false =>
      obtain ⟨q1, _⟩ := htg2 rfl
      rcases hz with hz | hz
      · exact .inl hz
      · rw [q1] at hz; cases hz
  | own hρ hl =>
    rename_i b base sz ct
    have hs := hsz _ _ _ _ hρ
    subst hs
    have hrun := run _ _ rfl
    have hmc := hm _ ⟨_, rfl⟩
    refine ⟨_, hrun, ?_⟩
    by_cases hml : m = l
    · have hhl : h = l := by omega
      subst hhl
      rw [if_pos hml, hml, Nat.sub_self]
      have hct : off + h ≤ ct := by
        subst hml
        cases tg with
        | true => simp at hmc; omega
        | false => simp at hmc; omega
      refine AR.ownZero _ hρ hct ?_
      cases tg' with
      | true => exact .inr rfl
      | false =>
        obtain ⟨q1, q2⟩ := htg2 rfl
        have := q2 _ ⟨_, rfl⟩
        rw [q1] at this
        simp at this
        exact .inl (by omega)
    · rw [if_neg hml]
      have e1 : (some (⟨b, base + off * inf.size, none⟩ : Addr)).map (·.add (l * inf.size)) = some ⟨b, base + (off + l) * inf.size, none⟩ := by
        simp [add_off, Nat.add_mul, Nat.add_assoc]
      rw [e1]
      have key : off + l + (h - l) ≤ ct ∧ m - l = (if tg' then h - l else ct - (off + l)) := by
        cases tg' with
        | true =>
          have := htg rfl
          subst this
          refine ⟨?_, by simp⟩
          cases tg with
          | true => simp at hmc; omega
          | false => simp at hmc; omega
        | false =>
          obtain ⟨q1, q2⟩ := htg2 rfl
          have := q2 _ ⟨_, rfl⟩
          rw [q1] at this
          simp at this
          exact ⟨by omega, by simp; omega⟩
      have := @AR.own ρ F w k (off + l) (h - l) b base inf.size ct tg' hρ key.1
      rw [← key.2] at this
      exact this

end Go.Dm
