/-
  append: a copy that grows, a row of the call's own that is appended to, a write in place.
  Conditions: none.
-/
import Derived.Test.YtbhlfbkheijojaaEng8
namespace Go.Dm

/-- the elements that a slice shows -/
def srcOf (x : AV) (σ : Heap) : Option (List (List AV)) :=
  match x with
  | .t (.rows es) => some (es.map (·.map .t))
  | .tsl es => some (es.map (·.map .t))
  | .own k off len _ => match σ k with | some (.row _ _ es) => some ((es.drop off).take len) | _ => none
  | _ => none

/-- may a slice be read as elements of sz cells -/
def srcOk (sz : Nat) (x : AV) (σ : Heap) : Prop :=
  match x with
  | .t (.rows es) => szOk sz es
  | .tsl es => szOk sz es
  | .own k off len _ => match σ k with | some (.row _ z es) => z = sz ∧ off + len ≤ es.length | _ => False
  | _ => False

/-- what a value shows, cell by cell, in every world of these blocks -/
structure SrcIs (P : Program) (w : World) (X : Value) (n sz : Nat) (news : List Value) : Prop where
  len : ∀ w', (Builtin.lenOf X).run P w' = .ok n w'
  cells : ∀ w', w'.heap = w.heap → (Builtin.firstCells sz n X).run P w' = .ok news.toArray w'
  size : news.length = n * sz
  shape : ∃ a cap, X = .slice a n cap ∧ n ≤ cap

def CellsOf (ρ : Inj) (F : Fz) (w : World) (sz : Nat) (news : List Value) (src : List (List AV)) : Prop :=
  ∀ i y, src[i]? = some y → ∀ j a, y[j]? = some a → ∃ v, news[i * sz + j]? = some v ∧ AR ρ F w v a

theorem firstCells_block {P : Program} {w : World} {b off n sz len cap : Nat} {c : Array Value} {e : TypeId} {fz : Nat × Nat} (hb : w.heap[b]? = some (.cells c e fz)) (hs : off + n * sz ≤ c.size) :
    ∀ w', w'.heap = w.heap → (Builtin.firstCells sz n (.slice (some ⟨b, off, none⟩) len cap)).run P w' = .ok ((c.toList.drop off).take (n * sz)).toArray w' := by
  intro w' hw
  have hb' : w'.heap[b]? = some (.cells c e fz) := by rw [hw]; exact hb
  have := run_loadCells (P := P) w' ⟨b, off, none⟩ (n * sz) (fun j => c[off + j]!) (fun j hj => by
    rw [add_off]
    have : off + j < c.size := by omega
    simp [World.cell?, hb', this])
  simp only [Builtin.firstCells, this]
  congr 2
  apply List.ext_getElem?
  intro j
  by_cases hj : j < n * sz
  · have : off + j < c.size := by omega
    simp [hj, this]
  · rw [List.getElem?_eq_none (by simp; omega), List.getElem?_eq_none (by simp; omega)]

theorem block_cells (c : Array Value) (off m j : Nat) (h : j < m) : ((c.toList.drop off).take m)[j]? = c[off + j]? := by
  rw [List.getElem?_take_of_lt h, List.getElem?_drop]; simp

theorem idx_lt {n sz i j : Nat} (hi : i < n) (hj : j < sz) : i * sz + j < n * sz := by
  have : (i + 1) * sz ≤ n * sz := Nat.mul_le_mul_right _ hi
  rw [Nat.succ_mul] at this; omega

theorem lt_of_get {α : Type} {l : List α} {i : Nat} {x : α} (h : l[i]? = some x) : i < l.length := by
  rcases Nat.lt_or_ge i l.length with h' | h'
  · exact h'
  · rw [List.getElem?_eq_none h'] at h; cases h

theorem TR.src {P : Program} {ρ : Inj} {F : Fz} {w : World} {X : Value} {es : List (List Tree)} {sz : Nat} (h : TR F w X (.rows es)) (hz : szOk sz es) :
    ∃ news, SrcIs P w X es.length sz news ∧ CellsOf ρ F w sz news (es.map (·.map .t)) := by
  cases h with
  | nil a cap =>
    refine ⟨[], ⟨fun w' => rfl, fun w' _ => ?_, by simp, a, cap, rfl, Nat.zero_le _⟩, fun i y h => by simp at h⟩
    cases a <;> simp [Builtin.firstCells, loadCells, loadCellsFrom]
  | rows b off len cap sz' es c e fz vals hb hl hc hs hz' hv ht =>
    subst hl
    by_cases hes : es = []
    · subst hes
      refine ⟨[], ⟨fun w' => rfl, fun w' _ => by simp [Builtin.firstCells, loadCells, loadCellsFrom], by simp, _, _, rfl, hc⟩, fun i y h => by simp at h⟩
    · have hsz : sz' = sz := by
        obtain ⟨x, hx⟩ := List.exists_mem_of_ne_nil es hes
        rw [← hz' x hx, hz x hx]
      subst hsz
      have hroom : off + es.length * sz' ≤ c.size := by
        have : es.length * sz' ≤ cap * sz' := Nat.mul_le_mul_right _ hc
        omega
      refine ⟨_, ⟨fun w' => rfl, firstCells_block hb hroom, by simp; omega, _, _, rfl, hc⟩, fun i y hy j a ha => ?_⟩
      simp only [List.getElem?_map, Option.map_eq_some_iff] at hy
      obtain ⟨x, hx, rfl⟩ := hy
      simp only [List.getElem?_map, Option.map_eq_some_iff] at ha
      obtain ⟨t, htt, rfl⟩ := ha
      have hi := lt_of_get hx
      have hj : j < sz' := by have := lt_of_get htt; rw [hz' x (List.mem_of_getElem? hx)] at this; exact this
      obtain ⟨q1, q2⟩ := hv i x hx j t htt
      refine ⟨vals i j, ?_, .t (ht i x hx j t htt)⟩
      rw [block_cells c off _ _ (idx_lt hi hj), ← Nat.add_assoc]; exact q2

theorem src_sound {P : Program} {ρ : Inj} {F : Fz} {w : World} {σ : Heap} (hh : HR ρ F w σ) {X : Value} {x : AV} {sz : Nat} {src : List (List AV)} (hx : AR ρ F w X x) (hs : srcOf x σ = some src) (hok : srcOk sz x σ) :
    ∃ news, SrcIs P w X src.length sz news ∧ CellsOf ρ F w sz news src := by
  unfold srcOf at hs
  unfold srcOk at hok
  split at hs
  · simp only [Option.some.injEq] at hs
    subst hs
    cases hx with | t hx => simpa using hx.src (P := P) (ρ := ρ) hok
  · simp only [Option.some.injEq] at hs
    subst hs
    cases hx with | tsl hx => simpa using hx.src (P := P) (ρ := ρ) hok
  · rename_i k off len tg
    split at hs
    · rename_i tag z es hk
      simp only [Option.some.injEq] at hs
      subst hs
      simp only [hk] at hok
      obtain ⟨hz, hl⟩ := hok
      have e0 : ((es.drop off).take len).length = len := by simp; omega
      cases hx with
      | ownDead a l c hρ _ => exact absurd hρ (hh.live hk)
      | ownVirt a hρ =>
        refine ⟨[], ⟨fun w' => by simp [Builtin.lenOf], fun w' _ => ?_, by simp, a, 0, by simp, by simp⟩, fun i y h => by simp at h⟩
        cases a <;> simp [Builtin.firstCells, loadCells, loadCellsFrom]
      | ownZero a hρ hl2 hz2 =>
        refine ⟨[], ⟨fun w' => by simp [Builtin.lenOf], fun w' _ => ?_, by simp, a, 0, by simp, by simp⟩, fun i y h => by simp at h⟩
        cases a <;> simp [Builtin.firstCells, loadCells, loadCellsFrom]
      | own hρ hl2 =>
        rename_i b base sz' ct
        obtain ⟨q1, q2, c, e, q3, q4, q5, q6, q7⟩ := hh.sz hk hρ
        subst hz
        subst q1
        have hroom : base + off * z + len * z ≤ c.size := by
          have : (off + len) * z ≤ ct * z := Nat.mul_le_mul_right _ hl2
          rw [Nat.add_mul] at this; omega
        rw [e0]
        refine ⟨_, ⟨fun w' => rfl, firstCells_block q3 hroom, by simp; omega, _, _, rfl, by split <;> omega⟩, fun i y hy j a ha => ?_⟩
        have hi : i < len := by have := lt_of_get hy; omega
        rw [List.getElem?_take_of_lt hi, List.getElem?_drop] at hy
        have hj : j < z := by have := lt_of_get ha; rw [q5 y (List.mem_of_getElem? hy)] at this; exact this
        obtain ⟨v, hv, hr⟩ := q6 _ _ hy j a ha
        refine ⟨v, ?_, hr⟩
        rw [block_cells c _ _ _ (idx_lt hi hj)]
        rw [Nat.add_mul] at hv
        have : base + off * z + (i * z + j) = base + (off * z + i * z) + j := by omega
        rw [this]; exact hv
    · cases hs
  · cases hs

section
variable {P : Program} {t ty u e e' : TypeId} {inf : TypeInfo} {z : Value} (ht : P.underlying t = some (.slice e)) (hi : P.info? e = some inf) (hzz : inf.zero = some z) (hu : P.underlying u = some (.slice e')) {w : World}
include ht hi hu

theorem app_room {base : Option Addr} {sLen sCap n : Nat} {X : Value} {news : List Value} (hX : SrcIs P w X n inf.size news) (hroom : sLen + n ≤ sCap) {w' : World}
    (hst : (match base with | some a => storeCells (a.add (sLen * inf.size)) news | none => pure () : Sem Unit).run P w = .ok () w') :
    (Builtin.append_ #[t, u] ty #[.slice base sLen sCap, X]).run P w = .ok (.slice base (sLen + n) sCap) w' := by
  have h1 := hX.len w
  have h2 := hX.cells w rfl
  cases base with
  | none =>
    simp only [Sem.run_pure, Result.ok.injEq, true_and] at hst
    subst hst
    simp [Builtin.append_, run_underlying ht, run_underlying hu, sizeOf, typeInfo, hi, h1, hroom, h2]
  | some a =>
    simp only at hst
    simp [Builtin.append_, run_underlying ht, run_underlying hu, sizeOf, typeInfo, hi, h1, hroom, h2, hst]

include hzz
theorem app_grow {base : Option Addr} {sLen sCap n : Nat} {X : Value} {olds news : List Value} (hX : SrcIs P w X n inf.size news) (hB : SrcIs P w (.slice base sLen sCap) sLen inf.size olds) (hg : sCap < sLen + n)
    (hfit : (sLen + n) * inf.bytes ≤ 140737488355328) (hb : 0 < inf.bytes) :
    (Builtin.append_ #[t, u] ty #[.slice base sLen sCap, X]).run P w =
      .ok (.slice (some ⟨w.heap.size, 0, none⟩) (sLen + n) (grownCap w (sLen + n) sCap e))
        (w.drew.alloc (.cells (olds.toArray ++ news.toArray ++ Builtin.zeroCells z.cells (grownCap w (sLen + n) sCap e - (sLen + n))) e)) := by
  have h1 := hX.len w
  have h2 := hX.cells w.drew rfl
  have h3 := hB.cells w.drew rfl
  have hn : ¬ (sLen + n ≤ sCap) := by omega
  have hb0 : ¬ inf.bytes = 0 := by omega
  have h48 := growslice_fits hg hfit
  have h48' : ¬ (281474976710656 < Builtin.nextslicecap (sLen + n) sCap * inf.bytes) := by omega
  simp [Builtin.append_, run_underlying ht, run_underlying hu, sizeOf, typeInfo, zeroValue, hi, hzz, h1, hn, hb0, h48', Question.forced, h2, h3, newRow, grownCap]
  congr 2
  apply Array.ext'
  simp [List.append_assoc]
end

/-- append to what is nil or full: a copy -/
def appNew (d sz bytes : Nat) (x s : AV) (σ : Heap) : PV (AV × Ups) :=
  match srcOf x σ, srcOf s σ with
  | some old, some new =>
    ⟨σ d = none ∧ srcOk sz x σ ∧ srcOk sz s σ ∧ (old = [] ∨ 0 < new.length) ∧ (old.length + new.length) * bytes ≤ 140737488355328,
      (.own d 0 (old.length + new.length) false, [(d, .row .lone sz (old ++ new))])⟩
  | _, _ => ⟨False, (.any, [])⟩

theorem CellsOf.app {ρ : Inj} {F : Fz} {w : World} {sz n0 : Nat} {olds news : List Value} {old new : List (List AV)} (h1 : CellsOf ρ F w sz olds old) (h2 : CellsOf ρ F w sz news new) (hn : olds.length = n0 * sz) (hl : old.length = n0) :
    CellsOf ρ F w sz (olds ++ news) (old ++ new) := by
  intro i y hy j a ha
  by_cases hi : i < n0
  · rw [List.getElem?_append_left (by omega)] at hy
    obtain ⟨v, hv, hr⟩ := h1 i y hy j a ha
    refine ⟨v, ?_, hr⟩
    have := lt_of_get hv
    rw [List.getElem?_append_left this]; exact hv
  · rw [List.getElem?_append_right (by omega), hl] at hy
    obtain ⟨v, hv, hr⟩ := h2 _ y hy j a ha
    refine ⟨v, ?_, hr⟩
    have e : i * sz = n0 * sz + (i - n0) * sz := by rw [← Nat.add_mul]; congr 1; omega
    rw [List.getElem?_append_right (by omega), hn, e]
    have : n0 * sz + (i - n0) * sz + j - n0 * sz = (i - n0) * sz + j := by omega
    rw [this]; exact hv

theorem srcOk_len {ρ : Inj} {F : Fz} {w : World} {σ : Heap} (hh : HR ρ F w σ) {x : AV} {sz : Nat} {src : List (List AV)} (hs : srcOf x σ = some src) (hok : srcOk sz x σ) : ∀ y ∈ src, y.length = sz := by
  unfold srcOf at hs
  unfold srcOk at hok
  split at hs
  · simp only [Option.some.injEq] at hs; subst hs
    intro y hy
    obtain ⟨x, hx, rfl⟩ := List.mem_map.1 hy
    simpa using hok x hx
  · simp only [Option.some.injEq] at hs; subst hs
    intro y hy
    obtain ⟨x, hx, rfl⟩ := List.mem_map.1 hy
    simpa using hok x hx
  · rename_i k off len tg
    split at hs
    · rename_i tag z es hk
      simp only [Option.some.injEq] at hs; subst hs
      simp only [hk] at hok
      intro y hy
      have hy' : y ∈ es := List.drop_subset _ _ (List.take_subset _ _ hy)
      cases hh.blk k _ hk with
      | virt _ _ => simp at hy'
      | row _ _ _ _ hz _ _ => rw [hz y hy', hok.1]
    · cases hs
  · cases hs

/-- a grown copy's block -/
theorem grown_new {ρ : Inj} {F : Fz} {w : World} {σ : Heap} (hh : HR ρ F w σ) {d sz : Nat} (hd : σ d = none) {tag : Tag} (old new : List (List AV)) (olds news : List Value) (n0 n : Nat) (e : TypeId) (zc : Array Value) (cap : Nat)
    (hl0 : old.length = n0) (hl1 : new.length = n) (h0 : olds.length = n0 * sz) (h1 : news.length = n * sz) (hc0 : CellsOf ρ F w sz olds old) (hc1 : CellsOf ρ F w sz news new) (ho : ∀ x ∈ old, x.length = sz) (hn : ∀ x ∈ new, x.length = sz)
    (hcap : n0 + n ≤ cap) (hzc : zc.size = sz) :
    ∃ ρ', AR ρ' F (w.drew.alloc (.cells (olds.toArray ++ news.toArray ++ Builtin.zeroCells zc (cap - (n0 + n))) e)) (.slice (some ⟨w.heap.size, 0, none⟩) (n0 + n) cap) (.own d 0 (n0 + n) false) ∧
      Stp ρ F w ρ' F (w.drew.alloc (.cells (olds.toArray ++ news.toArray ++ Builtin.zeroCells zc (cap - (n0 + n))) e)) (upd σ d (.row tag sz (old ++ new))) := by
  have s1 := Stp.drew hh
  have hca := CellsOf.app hc0 hc1 h0 hl0
  have hsize : (olds.toArray ++ news.toArray ++ Builtin.zeroCells zc (cap - (n0 + n))).size = cap * sz := by
    simp only [Array.size_append, List.size_toArray, h0, h1, size_zeroCells, hzc]
    rw [← Nat.add_mul, ← Nat.add_mul]; congr 1; omega
  refine ⟨setI ρ d (.at_ w.heap.size 0 sz cap), ?_, ?_⟩
  · have := @AR.own (setI ρ d (.at_ w.heap.size 0 sz cap)) F (w.drew.alloc (.cells (olds.toArray ++ news.toArray ++ Builtin.zeroCells zc (cap - (n0 + n))) e)) d 0 (n0 + n) w.heap.size 0 sz cap false (setI_same _ _ _) (by omega)
    simpa using this
  · refine s1.trans (Stp.newRow s1.heap hd _ e tag (old ++ new) sz cap (by simp; omega) (by omega) (fun x hx => ?_) (fun i x hx j a ha => ?_))
    · rcases List.mem_append.1 hx with h | h
      · exact ho x h
      · exact hn x h
    · obtain ⟨v, hv, hr⟩ := hca i x hx j a ha
      refine ⟨v, ?_, s1.ar hr⟩
      have hlt := lt_of_get hv
      have : (olds.toArray ++ news.toArray ++ Builtin.zeroCells zc (cap - (n0 + n)))[i * sz + j]? = (olds ++ news)[i * sz + j]? := by
        rw [Array.getElem?_append_left (by simpa using hlt)]
        simp
      rw [Nat.zero_add, this]; exact hv


section
variable {P : Program} {t ty u e e' : TypeId} {inf : TypeInfo} {z : Value} (ht : P.underlying t = some (.slice e)) (hi : P.info? e = some inf) (hzz : inf.zero = some z) (hu : P.underlying u = some (.slice e')) (hzc : z.cells.size = inf.size) (hbp : 0 < inf.bytes)
include ht hi hzz hu hzc hbp

theorem appNew_sound {ρ : Inj} {F : Fz} {w : World} {σ : Heap} (hh : HR ρ F w σ) {d : Nat} {x s : AV} {X S : Value} (hfull : (∃ es, x = .tsl es) ∨ ∃ k off len, x = .own k off len true) (hx : AR ρ F w X x) (hs : AR ρ F w S s)
    (hd : (appNew d inf.size inf.bytes x s σ).dom) :
    ∃ v w' ρ', (Builtin.append_ #[t, u] ty #[X, S]).run P w = .ok v w' ∧ AR ρ' F w' v (appNew d inf.size inf.bytes x s σ).val.1 ∧ Stp ρ F w ρ' F w' (updAll σ (appNew d inf.size inf.bytes x s σ).val.2) := by
  unfold appNew at hd ⊢
  split at hd
  · rename_i old new ho hn
    obtain ⟨h1, h2, h3, h4, h5⟩ := hd
    obtain ⟨olds, hB, hcB⟩ := src_sound (P := P) hh hx ho h2
    obtain ⟨news, hX, hcX⟩ := src_sound (P := P) hh hs hn h3
    obtain ⟨a, cap, hXe, hle⟩ := hB.shape
    have hcap : cap = old.length := by
      rcases hfull with ⟨es, rfl⟩ | ⟨k, off, len, rfl⟩
      · cases hx with
        | tsl hx => simp only [Value.slice.injEq] at hXe; omega
      · cases hx with
        | own hρ hl => simp only [Value.slice.injEq, if_true] at hXe; omega
        | ownVirt a hρ => simp only [Value.slice.injEq] at hXe; omega
        | ownZero a hρ hl hz => simp only [Value.slice.injEq] at hXe; omega
        | ownDead a l c hρ _ =>
          simp only [srcOf] at ho
          split at ho
          · rename_i hk; exact absurd hρ (hh.live hk)
          · cases ho
    subst hcap
    subst hXe
    by_cases hpos : 0 < new.length
    · have hrun := app_grow (ty := ty) ht hi hzz hu hX hB (by omega) h5 hbp
      obtain ⟨ρ', q1, q2⟩ := grown_new hh h1 (tag := .lone) old new olds news old.length new.length e z.cells (grownCap w (old.length + new.length) old.length e) rfl rfl hB.size hX.size hcB hcX
        (srcOk_len hh ho h2) (srcOk_len hh hn h3) (grownCap_ge w _ _ _) hzc
      exact ⟨_, _, ρ', hrun, q1, q2⟩
    · have hold : old = [] := h4.resolve_right hpos
      have hnew : new = [] := List.eq_nil_of_length_eq_zero (by omega)
      subst hold
      subst hnew
      have hnn : news = [] := List.eq_nil_of_length_eq_zero (by rw [hX.size]; simp)
      subst hnn
      have hrun := app_room (ty := ty) ht hi hu hX (base := a) (sLen := 0) (sCap := 0) (by simp) (w' := w) (by cases a <;> simp [storeCells])
      exact ⟨_, _, _, hrun, AR.ownVirt a (setI_same _ _ _), Stp.virt hh h1 .lone inf.size (by simp)⟩
  · exact hd.elim
end

end Go.Dm
