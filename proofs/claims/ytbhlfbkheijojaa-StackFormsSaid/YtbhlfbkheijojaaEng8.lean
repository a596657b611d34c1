/-
  Slicing whole; lengths; made slices.
  Conditions: none.
-/
import Derived.Test.YtbhlfbkheijojaaEng7
namespace Go.Dm

/-- do the elements of a frozen row have so many cells -/
def szOk (sz : Nat) (es : List (List Tree)) : Prop := ∀ x ∈ es, x.length = sz

/-- a part of a frozen row -/
theorem TR.part {F : Fz} {w : World} {a : Option Addr} {len cap : Nat} {es : List (List Tree)} (h : TR F w (.slice a len cap) (.rows es)) (l n m sz : Nat) (h1 : l + n ≤ len) (h2 : l + n ≤ m) (h3 : m ≤ cap) (h4 : l = 0 ∨ szOk sz es) :
    TR F w (.slice (if m = l then a else a.map (·.add (l * sz))) n (m - l)) (.rows ((es.drop l).take n)) := by
  cases h with
  | nil a cap =>
    have : n = 0 := by omega
    subst this
    simpa using TR.nil _ _
  | rows b off len cap sz' es c e fz vals hb hl hc hs hz hv ht =>
    by_cases hes : es = []
    · subst hes
      simp at hl
      have hn : n = 0 := by omega
      subst hn
      simpa using TR.nil _ _
    · have hsz : l * sz = l * sz' := by
        rcases h4 with h4 | h4
        · rw [h4]; simp
        · obtain ⟨x, hx⟩ := List.exists_mem_of_ne_nil es hes
          rw [← hz x hx, h4 x hx]
      by_cases hml : m = l
      · have : n = 0 := by omega
        subst this
        simpa using TR.nil _ _
      · rw [if_neg hml]
        simp only [Option.map_some, add_off, hsz]
        refine .rows b (off + l * sz') n (m - l) sz' _ c e fz (fun i j => vals (l + i) j) hb (by simp; omega) (by omega) ?_ (fun x hx => hz x (List.drop_subset _ _ (List.take_subset _ _ hx))) (fun i x hi j t hj => ?_) (fun i x hi j t hj => ?_)
        · have : l * sz' + (m - l) * sz' = m * sz' := by rw [← Nat.add_mul]; congr 1; omega
          have : m * sz' ≤ cap * sz' := Nat.mul_le_mul_right _ h3
          omega
        · have hi' : es[l + i]? = some x := by
            rcases Nat.lt_or_ge i n with h | h
            · rw [List.getElem?_take_of_lt h, List.getElem?_drop] at hi; exact hi
            · rw [List.getElem?_eq_none (by simp; omega)] at hi; cases hi
          have := hv _ x hi' j t hj
          rw [Nat.add_mul, ← Nat.add_assoc] at this
          exact this
        · have hi' : es[l + i]? = some x := by
            rcases Nat.lt_or_ge i n with h | h
            · rw [List.getElem?_take_of_lt h, List.getElem?_drop] at hi; exact hi
            · rw [List.getElem?_eq_none (by simp; omega)] at hi; cases hi
          exact ht _ x hi' j t hj

theorem TR.len {F : Fz} {w : World} {a : Option Addr} {len cap : Nat} {es : List (List Tree)} (h : TR F w (.slice a len cap) (.rows es)) : len = es.length ∧ len ≤ cap := by
  cases h with
  | nil a cap => exact ⟨rfl, Nat.zero_le _⟩
  | rows b off len cap sz es c e fz vals hb hl hc hs hz hv ht => exact ⟨hl.symm, hc⟩

theorem TR.slice {F : Fz} {w : World} {v : Value} {es : List (List Tree)} (h : TR F w v (.rows es)) : ∃ a cap, v = .slice a es.length cap ∧ es.length ≤ cap := by
  cases h with
  | nil a cap => exact ⟨a, cap, rfl, Nat.zero_le _⟩
  | rows b off len cap sz es c e fz vals hb hl hc hs hz hv ht => exact ⟨_, _, by rw [hl], by rw [hl]; exact hc⟩

/-- a slice of a slice or a string -/
def aSliceT (sz : Nat) (x : AV) (lo hi mx : Option AV) : PV AV :=
  match x with
  | .t (.rows es) =>
    match optI 0 lo, optI es.length hi, mx with
    | some l, some h, none => ⟨0 ≤ l ∧ l ≤ h ∧ h ≤ es.length ∧ (l = 0 ∨ szOk sz es), .t (.rows ((es.drop l.toNat).take (h.toNat - l.toNat)))⟩
    | some l, some h, some (.t (.int _ m)) =>
      ⟨0 ≤ l ∧ l ≤ h ∧ h ≤ m ∧ m ≤ es.length ∧ (l = 0 ∨ szOk sz es) ∧ hi.isSome = true, if h = m then .tsl ((es.drop l.toNat).take (h.toNat - l.toNat)) else .any⟩
    | _, _, _ => noV
  | .tsl es =>
    match optI 0 lo, optI es.length hi, mx with
    | some l, some h, none => ⟨0 ≤ l ∧ l ≤ h ∧ h ≤ es.length ∧ (l = 0 ∨ szOk sz es), .t (.rows ((es.drop l.toNat).take (h.toNat - l.toNat)))⟩
    | some l, some h, some (.t (.int _ m)) =>
      ⟨0 ≤ l ∧ l ≤ h ∧ h ≤ m ∧ m ≤ es.length ∧ (l = 0 ∨ szOk sz es) ∧ hi.isSome = true, if h = m then .tsl ((es.drop l.toNat).take (h.toNat - l.toNat)) else .any⟩
    | _, _, _ => noV
  | _ => noV

/-- a slice of a string -/
def aSliceS (x : AV) (lo hi mx : Option AV) : PV AV :=
  match x with
  | .t (.str s) =>
    match optI 0 lo, optI s.size hi, mx with
    | some l, some h, none => ⟨0 ≤ l ∧ l ≤ h ∧ h ≤ s.size, .t (.str (s.extract l.toNat h.toNat))⟩
    | _, _, _ => noV
  | _ => noV

theorem aSliceS_sound {P : Program} {ρ : Inj} {F : Fz} {w : World} {t : TypeId} {x : AV} {lo hi mx : Option AV} {X : Value} {LO HI MX : Option Value} (hu : P.underlying t = some .string)
    (hx : AR ρ F w X x) (hlo : ∀ a, lo = some a → ∃ V, LO = some V ∧ AR ρ F w V a) (hlo' : lo = none → LO = none) (hhi : ∀ a, hi = some a → ∃ V, HI = some V ∧ AR ρ F w V a) (hhi' : hi = none → HI = none)
    (hmx' : mx = none → MX = none) (hd : (aSliceS x lo hi mx).dom) :
    ∃ v, (Instr.sliceAt t X LO HI MX).run P w = .ok v w ∧ AR ρ F w v (aSliceS x lo hi mx).val := by
  unfold aSliceS at hd ⊢
  split at hd
  · rename_i s
    cases hx with | t hx =>
    cases hx
    split at hd
    · rename_i l h e1 e2
      obtain ⟨h0, h1, h2⟩ := hd
      have hb := bounds_run (P := P) (w := w) (isS := false) (cap := s.size) hlo hlo' hhi hhi' e1 e2 rfl hmx' h0 h1 h2
      have hM := hmx' rfl
      subst hM
      exact ⟨_, by simp [Instr.sliceAt, Instr.slice, run_underlying hu, hb], .t (.str _)⟩
    · exact hd.elim
  · exact hd.elim

def aSlice' (sz : Nat) (x : AV) (lo hi mx : Option AV) (σ : Heap) : PV AV :=
  match x with
  | .own k off len tg =>
    match σ k, optI 0 lo, optI len hi, mx with
    | some (.row _ z es), some l, some h, none =>
      if tg then ⟨0 ≤ l ∧ l ≤ h ∧ h = len ∧ z = sz, .own k (off + l.toNat) (h.toNat - l.toNat) true⟩
      else ⟨0 ≤ l ∧ l ≤ h ∧ (h ≤ len ∨ off + h ≤ es.length) ∧ z = sz, .own k (off + l.toNat) (h.toNat - l.toNat) false⟩
    | some (.row _ z es), some l, some h, some (.t (.int _ m)) =>
      ⟨0 ≤ l ∧ l ≤ h ∧ h ≤ m ∧ (m ≤ len ∨ (tg = false ∧ off + m ≤ es.length)) ∧ z = sz ∧ hi.isSome = true, if h = m then .own k (off + l.toNat) (h.toNat - l.toNat) true else .any⟩
    | _, _, _, _ => noV
  | x => aSliceT sz x lo hi mx

theorem aSliceT_sound {P : Program} {ρ : Inj} {F : Fz} {w : World} {t : TypeId} {sz : Nat} {x : AV} {lo hi mx : Option AV} {X : Value} {LO HI MX : Option Value}
    (ht : ∃ e inf, P.underlying t = some (.slice e) ∧ P.info? e = some inf ∧ inf.size = sz)
    (hx : AR ρ F w X x) (hlo : ∀ a, lo = some a → ∃ V, LO = some V ∧ AR ρ F w V a) (hlo' : lo = none → LO = none) (hhi : ∀ a, hi = some a → ∃ V, HI = some V ∧ AR ρ F w V a) (hhi' : hi = none → HI = none)
    (hmx : ∀ a, mx = some a → ∃ V, MX = some V ∧ AR ρ F w V a) (hmx' : mx = none → MX = none) (hd : (aSliceT sz x lo hi mx).dom) :
    ∃ v, (Instr.sliceAt t X LO HI MX).run P w = .ok v w ∧ AR ρ F w v (aSliceT sz x lo hi mx).val := by
  have rows : ∀ es : List (List Tree), (∃ a cap, X = .slice a es.length cap ∧ TR F w X (.rows es)) → ∀ l h : Int, optI 0 lo = some l → optI es.length hi = some h → 0 ≤ l → l ≤ h → (l = 0 ∨ szOk sz es) →
      ((mx = none → h ≤ es.length → ∃ v, (Instr.sliceAt t X LO HI MX).run P w = .ok v w ∧ TR F w v (.rows ((es.drop l.toNat).take (h.toNat - l.toNat)))) ∧
       (∀ km m, mx = some (.t (.int km m)) → h ≤ m → m ≤ es.length → hi.isSome = true →
          ∃ v, (Instr.sliceAt t X LO HI MX).run P w = .ok v w ∧ (h = m → AR ρ F w v (.tsl ((es.drop l.toNat).take (h.toNat - l.toNat)))))) := by
    rintro es ⟨a, cap, rfl, htr⟩ l h e1 e2 h0 h1 hsz
    obtain ⟨e, inf, hu, hinf, hs⟩ := ht
    have hlc := htr.len.2
    have hsz' : l.toNat = 0 ∨ szOk sz es := by rcases hsz with h | h
                                               · exact .inl (by omega)
                                               · exact .inr h
    constructor
    · intro hm h2
      have hb := bounds_run (P := P) (isS := true) (cap := cap) hlo hlo' hhi hhi' e1 e2 hm hmx' h0 h1 (by omega)
      refine ⟨_, ?_, htr.part l.toNat (h.toNat - l.toNat) cap sz (by omega) (by omega) (Nat.le_refl _) hsz'⟩
      simp [Instr.sliceAt, Instr.slice, run_underlying hu, hb, sizeOf, typeInfo, hinf, hs]
    · intro km m hm h2 h3 hih
      have hb := bounds_run3 (P := P) (isS := true) (cap := cap) hlo hlo' hhi e1 e2 (by intro e; rw [e] at hih; cases hih) hm hmx h0 h1 h2 (by omega)
      refine ⟨_, by simp [Instr.sliceAt, Instr.slice, run_underlying hu, hb, sizeOf, typeInfo, hinf, hs]; rfl, fun hhm => ?_⟩
      subst hhm
      exact .tsl (htr.part l.toNat (h.toNat - l.toNat) h.toNat sz (by omega) (by omega) (by omega) hsz')
  unfold aSliceT at hd ⊢
  split at hd
  · rename_i es
    cases hx with | t hx =>
    obtain ⟨a, cap, e0, hlc⟩ := hx.slice
    split at hd
    · rename_i l h e1 e2
      obtain ⟨h0, h1, h2, h3⟩ := hd
      obtain ⟨v, hv, hr⟩ := (rows es ⟨a, cap, e0, hx⟩ l h e1 e2 h0 h1 h3).1 rfl h2
      exact ⟨v, hv, .t hr⟩
    · rename_i l h km m e1 e2
      obtain ⟨h0, h1, h2, h3, h4, h5⟩ := hd
      obtain ⟨v, hv, hr⟩ := (rows es ⟨a, cap, e0, hx⟩ l h e1 e2 h0 h1 h4).2 km m rfl h2 h3 h5
      refine ⟨v, hv, ?_⟩
      split
      · exact hr ‹_›
      · exact .any _
    · exact hd.elim
  · rename_i es
    cases hx with | tsl hx =>
    obtain ⟨a, cap, e0, hlc⟩ := hx.slice
    have hle := hx.len.1
    split at hd
    · rename_i l h e1 e2
      obtain ⟨h0, h1, h2, h3⟩ := hd
      obtain ⟨v, hv, hr⟩ := (rows es ⟨a, cap, e0, hx⟩ l h e1 e2 h0 h1 h3).1 rfl h2
      exact ⟨v, hv, .t hr⟩
    · rename_i l h km m e1 e2
      obtain ⟨h0, h1, h2, h3, h4, h5⟩ := hd
      obtain ⟨v, hv, hr⟩ := (rows es ⟨a, cap, e0, hx⟩ l h e1 e2 h0 h1 h4).2 km m rfl h2 h3 h5
      refine ⟨v, hv, ?_⟩
      split
      · exact hr ‹_›
      · exact .any _
    · exact hd.elim
  · exact hd.elim

theorem aSlice'_sound {P : Program} {ρ : Inj} {F : Fz} {w : World} {σ : Heap} (hh : HR ρ F w σ) {t : TypeId} {sz : Nat} {x : AV} {lo hi mx : Option AV} {X : Value} {LO HI MX : Option Value}
    (ht : ∃ e inf, P.underlying t = some (.slice e) ∧ P.info? e = some inf ∧ inf.size = sz)
    (hx : AR ρ F w X x) (hlo : ∀ a, lo = some a → ∃ V, LO = some V ∧ AR ρ F w V a) (hlo' : lo = none → LO = none) (hhi : ∀ a, hi = some a → ∃ V, HI = some V ∧ AR ρ F w V a) (hhi' : hi = none → HI = none)
    (hmx : ∀ a, mx = some a → ∃ V, MX = some V ∧ AR ρ F w V a) (hmx' : mx = none → MX = none) (hd : (aSlice' sz x lo hi mx σ).dom) :
    ∃ v, (Instr.sliceAt t X LO HI MX).run P w = .ok v w ∧ AR ρ F w v (aSlice' sz x lo hi mx σ).val := by
  unfold aSlice' at hd ⊢
  split at hd
  · rename_i k off len tg
    obtain ⟨e, inf, hu, hinf, hs⟩ := ht
    have hcap : ∀ z es tag, σ k = some (.row tag z es) → ∀ a cap, X = .slice a len cap → (tg = true → cap = len) ∧ (tg = false → es.length ≤ off + cap) ∧ len ≤ cap := fun z es tag hk a cap hX => by
      subst hX
      cases hx with
      | own hρ hl =>
        rename_i b base sz' ct
        have := (hh.sz hk hρ).2.1
        cases tg with
        | true => simp
        | false => simp; omega
      | ownVirt a hρ =>
        cases hh.blk k _ hk with
        | virt _ _ => simp
        | row h1 _ _ _ _ _ _ => rw [h1] at hρ; cases hρ
      | ownZero a hρ hl hz =>
        have := (hh.sz hk hρ).2.1
        refine ⟨fun _ => rfl, fun ht => ?_, Nat.le_refl _⟩
        rcases hz with hz | hz
        · omega
        · rw [ht] at hz; cases hz
      | ownDead a l c hρ _ => exact absurd hρ (hh.live hk)
    split at hd
    · rename_i tag z es l h hk e1 e2
      have hlive := hh.live hk
      have hplace : z = sz → ∀ b base sz' ct, ρ k = some (.at_ b base sz' ct) → sz' = inf.size := fun hz b base sz' ct hρ => by rw [← (hh.sz hk hρ).1, hz, hs]
      split at hd
      · rename_i htg
        obtain ⟨h0, h1, h2, h3⟩ := hd
        have hc := hcap z es tag hk
        rw [if_pos htg]
        have : ∀ cap, (∃ a, X = .slice a len cap) → cap = len := fun cap ⟨a, hX⟩ => (hc a cap hX).1 htg
        exact slice_own hu hinf (hplace h3) hx hlive (m := h.toNat) (fun cap hX => by
            have := this cap hX
            subst this
            have hb := bounds_run (P := P) (w := w) (isS := true) (cap := cap) hlo hlo' hhi hhi' e1 e2 rfl hmx' h0 h1 (by omega)
            rw [hb]; congr; omega) (by omega) (Nat.le_refl _) (fun cap hX => by have := this cap hX; omega) true (fun _ => rfl) (by simp)
      · rename_i htg
        simp only [Bool.not_eq_true] at htg
        obtain ⟨h0, h1, h2, h3⟩ := hd
        rw [if_neg (by simp [htg])]
        have hc := fun cap (hX : ∃ a, X = .slice a len cap) => hcap z es tag hk hX.choose cap hX.choose_spec
        have hle : ∀ cap, (∃ a, X = .slice a len cap) → h ≤ cap := fun cap hX => by
          obtain ⟨_, q2, q3⟩ := hc cap hX
          have := q2 htg
          omega
        -- the one capacity that the value has
        have hex : ∃ cap, ∃ a, X = .slice a len cap := by
          cases hx with
          | own hρ hl => exact ⟨_, _, rfl⟩
          | ownVirt a hρ => exact ⟨_, _, rfl⟩
          | ownZero a hρ hl hz => exact ⟨_, _, rfl⟩
          | ownDead a l c hρ _ => exact absurd hρ hlive
        obtain ⟨cap0, a0, hX0⟩ := hex
        have huniq : ∀ cap, (∃ a, X = .slice a len cap) → cap = cap0 := fun cap ⟨a, hX⟩ => by rw [hX0] at hX; cases hX; rfl
        exact slice_own hu hinf (hplace h3) hx hlive (m := cap0) (fun cap hX => by
            have := huniq cap hX
            subst this
            exact bounds_run (P := P) (w := w) (isS := true) (cap := cap) hlo hlo' hhi hhi' e1 e2 rfl hmx' h0 h1 (hle cap hX)) (by omega)
          (by have := hle cap0 ⟨a0, hX0⟩; omega) (fun cap hX => by have := huniq cap hX; omega) false (by simp) (fun _ => ⟨htg, fun cap hX => (huniq cap hX).symm⟩)
    · rename_i tag z es l h km m hk e1 e2
      obtain ⟨h0, h1, h2, h3, h4, h5⟩ := hd
      have hlive := hh.live hk
      have hplace : ∀ b base sz' ct, ρ k = some (.at_ b base sz' ct) → sz' = inf.size := fun b base sz' ct hρ => by rw [← (hh.sz hk hρ).1, h4, hs]
      have hle : ∀ cap, (∃ a, X = .slice a len cap) → m ≤ cap := fun cap ⟨a, hX⟩ => by
        obtain ⟨_, q2, q3⟩ := hcap z es tag hk a cap hX
        rcases h3 with h3 | ⟨h3, h6⟩
        · omega
        · have := q2 h3; omega
      have hb : ∀ cap, (∃ a, X = .slice a len cap) → (Instr.sliceBounds true len cap LO HI MX).run P w = .ok (l.toNat, h.toNat, m.toNat) w := fun cap hX =>
        bounds_run3 (P := P) (isS := true) (cap := cap) hlo hlo' hhi e1 e2 (by intro e; rw [e] at h5; cases h5) rfl hmx h0 h1 h2 (hle cap hX)
      by_cases hhm : h = m
      · rw [if_pos hhm]
        exact slice_own hu hinf hplace hx hlive hb (by omega) (by omega) (fun cap hX => by have := hle cap hX; omega) true (fun _ => by omega) (by simp)
      · rw [if_neg hhm]
        have hex : ∃ cap, ∃ a, X = .slice a len cap := by
          cases hx with
          | own hρ hl => exact ⟨_, _, rfl⟩
          | ownVirt a hρ => exact ⟨_, _, rfl⟩
          | ownZero a hρ hl hz => exact ⟨_, _, rfl⟩
          | ownDead a l c hρ _ => exact absurd hρ hlive
        obtain ⟨cap0, a0, hX0⟩ := hex
        have := hb cap0 ⟨a0, hX0⟩
        subst hX0
        exact ⟨_, by simp [Instr.sliceAt, Instr.slice, run_underlying hu, this, sizeOf, typeInfo, hinf]; rfl, .any _⟩
    · exact hd.elim
  · exact aSliceT_sound ht hx hlo hlo' hhi hhi' hmx hmx' hd

end Go.Dm
