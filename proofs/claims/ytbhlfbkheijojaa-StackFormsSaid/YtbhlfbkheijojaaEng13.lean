/-
  Made slices, bytes of strings, lengths, min and max, copy and clear.
  Conditions: none.
-/
import Derived.Test.YtbhlfbkheijojaaEng12
namespace Go.Dm

def aMake (d : Nat) (zs : List AV) (bytes : Nat) (l c : AV) (σ : Heap) : PV (AV × Ups) :=
  match l, c with
  | .t (.int .i64 n), .t (.int .i64 m) =>
    ⟨σ d = none ∧ 0 ≤ n ∧ n ≤ m ∧ m ≤ 9223372036854775807 ∧ bytes * m ≤ 281474976710656 ∧ zs ≠ [], (.own d 0 n.toNat false, [(d, .row .lone zs.length (List.replicate n.toNat zs))])⟩
  | _, _ => ⟨False, (.any, [])⟩

theorem made_get (z : Array Value) (n q : Nat) (hz : 0 < z.size) (hq : q < n) : ((Array.range n).map (z[· % z.size]!))[q]? = z[q % z.size]? := by
  have h : q % z.size < z.size := Nat.mod_lt _ hz
  simp [hq, h]

theorem make_sound {P : Program} {ρ : Inj} {F : Fz} {w : World} {σ : Heap} (hh : HR ρ F w σ) {d : Nat} {t e : TypeId} {inf : TypeInfo} {z : Value} {l c : AV} {L C : Value} (ht : P.underlying t = some (.slice e)) (hi : P.info? e = some inf)
    (hz : inf.zero = some z) (hzc : z.cells.size = inf.size) (hl : AR ρ F w L l) (hc : AR ρ F w C c) (hd : (aMake d (z.cells.toList.map absC) inf.bytes l c σ).dom) :
    ∃ v w' ρ', (Instr.makeSlice t L C).run P w = .ok v w' ∧ AR ρ' F w' v (aMake d (z.cells.toList.map absC) inf.bytes l c σ).val.1 ∧ Stp ρ F w ρ' F w' (updAll σ (aMake d (z.cells.toList.map absC) inf.bytes l c σ).val.2) := by
  unfold aMake at hd ⊢
  split at hd
  · rename_i n m
    obtain ⟨h1, h2, h3, h4, h5, h6⟩ := hd
    cases hl with | t hl => cases hc with | t hc =>
    cases hl; cases hc
    have hzp : 0 < z.cells.size := by
      rcases Nat.eq_zero_or_pos z.cells.size with h | h
      · exact absurd (by simpa using List.eq_nil_of_length_eq_zero (l := z.cells.toList) (by simpa using h)) h6
      · exact h
    have wl : IntKind.i64.wrap n = n := wrap_in64 ⟨by omega, by omega⟩
    have wc : IntKind.i64.wrap m = m := wrap_in64 ⟨by omega, by omega⟩
    have t1 : ¬ (m < 0) := by omega
    have t2 : ¬ ((inf.bytes : Int) * m > 2 ^ 48) := by simpa using h5
    have t3 : ¬ (n < 0) := by omega
    have t4 : ¬ (n > m) := by omega
    have hsz : z.cells.size * n.toNat ≤ z.cells.size * m.toNat := Nat.mul_le_mul_left _ (by omega)
    refine ⟨.slice (some ⟨w.heap.size, 0, none⟩) n.toNat m.toNat, w.alloc (.cells (if m.toNat * inf.size = 0 then (Array.range (m.toNat * inf.size)).map ((#[] : Array Value)[· % (#[] : Array Value).size]!) else (Array.range (m.toNat * inf.size)).map (z.cells[· % z.cells.size]!)) e),
      setI ρ d (.at_ w.heap.size 0 inf.size m.toNat), ?_, ?_, ?_⟩
    · unfold Instr.makeSlice
      simp only [Sem.run_bind, run_underlying ht, Result.andThen_ok, asInt, asIntOf, Sem.run_pure, typeInfo, run_program, hi, wl, wc, t1, t2, t3, t4, decide_false, Bool.or_self, Bool.false_eq_true, if_false, run_askRoom, sizeOf, zeroValue]
      by_cases h0 : m.toNat * inf.size = 0
      · simp [h0, newRow]
      · simp [h0, newRow, hi, hz]
    · have := @AR.own (setI ρ d (.at_ w.heap.size 0 inf.size m.toNat)) F (w.alloc (.cells (if m.toNat * inf.size = 0 then (Array.range (m.toNat * inf.size)).map ((#[] : Array Value)[· % (#[] : Array Value).size]!) else (Array.range (m.toNat * inf.size)).map (z.cells[· % z.cells.size]!)) e)) d 0 n.toNat w.heap.size 0 inf.size m.toNat false (setI_same _ _ _) (by omega)
      simpa using this
    · have hlen : (z.cells.toList.map absC).length = inf.size := by simp [hzc]
      have := Stp.newRow hh h1 (if m.toNat * inf.size = 0 then (Array.range (m.toNat * inf.size)).map ((#[] : Array Value)[· % (#[] : Array Value).size]!) else (Array.range (m.toNat * inf.size)).map (z.cells[· % z.cells.size]!)) e .lone (List.replicate n.toNat (z.cells.toList.map absC)) inf.size m.toNat (by simp; omega) (by split <;> simp)
        (fun x hx => by rw [(List.mem_replicate.1 hx).2]; exact hlen) (fun i x hx j a ha => ?_)
      · rw [← hlen] at this
        simpa [updAll, hlen] using this
      · have hi' := lt_of_get hx
        simp only [List.length_replicate] at hi'
        rw [List.getElem?_replicate, if_pos hi'] at hx
        simp only [Option.some.injEq] at hx
        subst hx
        have hj : j < inf.size := by have := lt_of_get ha; rw [hlen] at this; exact this
        have hq := idx_lt hi' hj
        have hqm : i * inf.size + j < m.toNat * inf.size := by
          have : n.toNat * inf.size ≤ m.toNat * inf.size := Nat.mul_le_mul_right _ (by omega)
          omega
        obtain ⟨v, hv, hr⟩ := (absC_vals ρ F w z.cells).nth ha
        refine ⟨v, ?_, hr⟩
        rw [if_neg (by omega), Nat.zero_add, made_get z.cells _ _ hzp hqm, hzc, Nat.mul_comm, Nat.mul_add_mod, Nat.mod_eq_of_lt hj]
        exact hv
  · exact hd.elim

/-- a byte of a string -/
def aStrIdx (x i : AV) : PV AV :=
  match x, i with
  | .t (.str s), .t (.int _ n) => ⟨0 ≤ n ∧ n < s.size, .t (.int .u8 (s.data.getD n.toNat 0).toNat)⟩
  | _, _ => noV

theorem aStrIdx_sound {P : Program} {ρ : Inj} {F : Fz} {w : World} {t : TypeId} {x i : AV} {X I : Value} (ht : P.underlying t = some .string) (hx : AR ρ F w X x) (hi : AR ρ F w I i) (hd : (aStrIdx x i).dom) :
    ∃ v, (Instr.index t X I).run P w = .ok v w ∧ AR ρ F w v (aStrIdx x i).val := by
  unfold aStrIdx at hd ⊢
  split at hd
  · rename_i s k n
    obtain ⟨h0, h1⟩ := hd
    cases hx with | t hx => cases hi with | t hi =>
    cases hx; cases hi
    have hn : n.toNat < s.size := by omega
    have hn' : n.toNat < s.data.size := hn
    have e1 : s[n.toNat]? = some (s.data.getD n.toNat 0) := by
      rw [getElem?_pos s n.toNat hn]
      simp only [Array.getD, hn', dif_pos]
      rfl
    refine ⟨_, ?_, .t (.int _ _)⟩
    simp [Instr.index, asIntOf, run_underlying ht, h0, e1]
  · exact hd.elim

def aLen (x : AV) (σ : Heap) : PV AV :=
  match x with
  | .t (.rows es) => ⟨True, .t (.int .i64 es.length)⟩
  | .tsl es => ⟨True, .t (.int .i64 es.length)⟩
  | .own k _ len _ => match σ k with | some (.row _ _ _) => ⟨True, .t (.int .i64 len)⟩ | _ => noV
  | _ => noV

def aLenS (x : AV) : PV AV :=
  match x with
  | .t (.str s) => ⟨True, .t (.int .i64 s.size)⟩
  | _ => noV

theorem aLenS_sound {P : Program} {ρ : Inj} {F : Fz} {w : World} {t ty : TypeId} {x : AV} {X : Value} (ht : P.underlying t = some .string) (hx : AR ρ F w X x) (hd : (aLenS x).dom) :
    ∃ v, (Builtin.len_ #[t] ty #[X]).run P w = .ok v w ∧ AR ρ F w v (aLenS x).val := by
  unfold aLenS at hd ⊢
  split at hd
  · cases hx with | t hx =>
    cases hx
    exact ⟨_, by simp [Builtin.len_, run_underlying ht, goInt], .t (.int _ _)⟩
  · exact hd.elim

theorem aLen_sound {P : Program} {ρ : Inj} {F : Fz} {w : World} {σ : Heap} (hh : HR ρ F w σ) {t ty e : TypeId} {x : AV} {X : Value} (ht : P.underlying t = some (.slice e))
    (hx : AR ρ F w X x) (hd : (aLen x σ).dom) : ∃ v, (Builtin.len_ #[t] ty #[X]).run P w = .ok v w ∧ AR ρ F w v (aLen x σ).val := by
  have sl : ∀ a n c, X = .slice a n c → (Builtin.len_ #[t] ty #[X]).run P w = .ok (.int .i64 n) w := by
    rintro a n c rfl
    simp [Builtin.len_, run_underlying ht, goInt]
  unfold aLen at hd ⊢
  split at hd
  · cases hx with | t hx =>
    obtain ⟨a, c, e1, _⟩ := hx.slice
    exact ⟨_, sl _ _ _ e1, .t (.int _ _)⟩
  · cases hx with | tsl hx =>
    have := hx.len.1
    subst this
    exact ⟨_, sl _ _ _ rfl, .t (.int _ _)⟩
  · split at hd
    · rename_i hk
      cases hx with
      | own hρ hl => exact ⟨_, sl _ _ _ rfl, .t (.int _ _)⟩
      | ownVirt a hρ => exact ⟨_, sl _ _ _ rfl, .t (.int _ _)⟩
      | ownZero a hρ hl hz => exact ⟨_, sl _ _ _ rfl, .t (.int _ _)⟩
      | ownDead a l c hρ _ => exact absurd hρ (hh.live hk)
    · exact hd.elim
  · exact hd.elim

/-- how many a map holds -/
def aLenM (x : AV) (σ : Heap) : PV AV :=
  match x with
  | .t .nilmap => ⟨True, .t (.int .i64 0)⟩
  | .mapr k => match σ k with | some (.mapl _ es _) => ⟨True, .t (.int .i64 es.length)⟩ | _ => noV
  | _ => noV

theorem aLenM_sound {P : Program} {ρ : Inj} {F : Fz} {w : World} {σ : Heap} (hh : HR ρ F w σ) {t ty k e : TypeId} {x : AV} {X : Value} (ht : P.underlying t = some (.map k e))
    (hx : AR ρ F w X x) (hd : (aLenM x σ).dom) : ∃ v, (Builtin.len_ #[t] ty #[X]).run P w = .ok v w ∧ AR ρ F w v (aLenM x σ).val := by
  unfold aLenM at hd ⊢
  split at hd
  · cases hx with | t hx =>
    cases hx
    exact ⟨_, by simp [Builtin.len_, run_underlying ht]; rfl, .t (.int _ _)⟩
  · rename_i r
    split at hd
    · rename_i kd es c hr
      cases hh.blk r _ hr with
      | mapl hρ' hb hs ha hkd hn hf =>
        cases hx with
        | mapr hρ =>
          rw [hρ] at hρ'
          cases hρ'
          refine ⟨.int .i64 es.length, ?_, .t (.int _ _)⟩
          simp [Builtin.len_, run_underlying ht, getObj, Sem.run, hb, hs, goInt]
        | maprDead r hρ => rw [hρ] at hρ'; cases hρ'
    · exact hd.elim
  · exact hd.elim

/-- cells that are zeroed -/
def aClear (zs : List AV) (x : AV) (σ : Heap) : PV Ups :=
  match x with
  | .tsl [] => ⟨True, []⟩
  | .own k off len _ =>
    match σ k with
    | some (.row .lone z es) => ⟨z = zs.length ∧ off + len ≤ es.length ∧ (∀ a ∈ zs, flat a = true), [(k, .row .lone z (es.take off ++ List.replicate len zs ++ es.drop (off + len)))]⟩
    | _ => ⟨False, []⟩
  | _ => ⟨False, []⟩

/-- elements of a row of one's own that are written -/
theorem over_sound {P : Program} {ρ : Inj} {F : Fz} {w : World} {σ : Heap} (hh : HR ρ F w σ) {k p b base sz' ct sz : Nat} {es new : List (List AV)} {news : List Value} (hk : σ k = some (.row .lone sz es)) (hρ : ρ k = some (.at_ b base sz' ct))
    (hl : news.length = new.length * sz) (hc : CellsOf ρ F w sz news new) (hn : ∀ x ∈ new, x.length = sz) (hone : ∀ v ∈ news, v.oneCell' = true) (hend : p + new.length ≤ es.length) :
    ∃ w', (storeCells ⟨b, base + p * sz, none⟩ news).run P w = .ok () w' ∧ Stp ρ F w ρ F w' (upd σ k (.row .lone sz (es.take p ++ new ++ es.drop (p + new.length)))) := by
  obtain ⟨p1, p2, c, ee, p3, p4, p5, p6, p7⟩ := hh.sz hk hρ
  subst p1
  have hroom : base + p * sz + new.length * sz ≤ base + es.length * sz := by
    have : (p + new.length) * sz ≤ es.length * sz := Nat.mul_le_mul_right _ (by omega)
    rw [Nat.add_mul] at this; omega
  have hct : es.length * sz ≤ ct * sz := Nat.mul_le_mul_right _ p2
  have hst := run_storeCells_at P b (base + p * sz) ee news 0 c w p3 (by rw [hl]; omega) hone
  simp only [Nat.add_zero] at hst
  have hget := write_get c (base + p * sz) news (by rw [hl]; omega)
  rw [hl] at hget
  refine ⟨_, hst, ?_⟩
  refine Stp.cells hh hk hρ p3 _ (by simp [hl]; omega) (by simp; omega) (fun x hx => ?_) (fun i x hx j a ha => ?_) (fun o ho => absurd ho (p7 o)) p7
  · rcases List.mem_append.1 hx with h | h
    · rcases List.mem_append.1 h with h | h
      · exact p5 x (List.take_subset _ _ h)
      · exact hn x h
    · exact p5 x (List.drop_subset _ _ h)
  · rw [hl, hget]
    have l1 : (es.take p).length = p := by simp; omega
    by_cases hi1 : i < p
    · rw [List.append_assoc, List.getElem?_append_left (by omega), List.getElem?_take_of_lt hi1] at hx
      obtain ⟨v, hv, hr⟩ := p6 i x hx j a ha
      have hj : j < sz := by have := lt_of_get ha; rw [p5 x (List.mem_of_getElem? hx)] at this; exact this
      have := idx_lt hi1 hj
      exact ⟨v, by rw [if_neg (by omega)]; exact hv, hr⟩
    · rw [List.append_assoc, List.getElem?_append_right (by omega), l1] at hx
      by_cases hi2 : i < p + new.length
      · rw [List.getElem?_append_left (by omega)] at hx
        obtain ⟨v, hv, hr⟩ := hc _ x hx j a ha
        have hj : j < sz := by have := lt_of_get ha; rw [hn x (List.mem_of_getElem? hx)] at this; exact this
        have := idx_lt (lt_of_get hx) hj
        have e1 : i * sz = p * sz + (i - p) * sz := by rw [← Nat.add_mul]; congr 1; omega
        refine ⟨v, ?_, hr⟩
        rw [if_pos (by omega)]
        have : base + i * sz + j - (base + p * sz) = (i - p) * sz + j := by omega
        rw [this]; exact hv
      · rw [List.getElem?_append_right (by omega), List.getElem?_drop] at hx
        have e0 : p + new.length + (i - p - new.length) = i := by omega
        rw [e0] at hx
        obtain ⟨v, hv, hr⟩ := p6 i x hx j a ha
        have e1 : (p + new.length) * sz ≤ i * sz := Nat.mul_le_mul_right _ (by omega)
        rw [Nat.add_mul] at e1
        exact ⟨v, by rw [if_neg (by omega)]; exact hv, hr⟩

theorem flat_absC {ρ : Inj} {F : Fz} {w : World} {v : Value} (h : flat (absC v) = true) : v.oneCell' = true := flat_one (AR.absC ρ F w v) h

theorem zeroCells_get (zc : Array Value) (n q : Nat) (hz : 0 < zc.size) (hq : q < n * zc.size) : (Builtin.zeroCells zc n)[q]? = zc[q % zc.size]? := by
  unfold Builtin.zeroCells
  exact made_get zc (n * zc.size) q hz hq

theorem clear_sound {P : Program} {ρ : Inj} {F : Fz} {w : World} {σ : Heap} (hh : HR ρ F w σ) {t ty e : TypeId} {inf : TypeInfo} {z : Value} {x : AV} {X : Value} (ht : P.underlying t = some (.slice e)) (hi : P.info? e = some inf)
    (hz : inf.zero = some z) (hzc : z.cells.size = inf.size) (hx : AR ρ F w X x) (hd : (aClear (z.cells.toList.map absC) x σ).dom) :
    ∃ w', (Builtin.clear_ #[t] ty #[X]).run P w = .ok (.tuple #[]) w' ∧ Stp ρ F w ρ F w' (updAll σ (aClear (z.cells.toList.map absC) x σ).val) := by
  unfold aClear at hd ⊢
  split at hd
  · cases hx with
    | tsl h =>
      have hl := (TR.len h).1
      simp at hl
      subst hl
      rename_i a
      refine ⟨w, ?_, Stp.refl hh⟩
      cases a <;> simp [Builtin.clear_, run_underlying ht]
  · rename_i k off len tg
    split at hd
    · rename_i z' es hk
      obtain ⟨hz1, hlen, hflat⟩ := hd
      have e0 : updAll σ [(k, .row .lone z' (es.take off ++ List.replicate len (z.cells.toList.map absC) ++ es.drop (off + len)))] = upd σ k (.row .lone z' (es.take off ++ List.replicate len (z.cells.toList.map absC) ++ es.drop (off + len))) := rfl
      rw [e0]
      have zero : len = 0 → upd σ k (.row .lone z' (es.take off ++ List.replicate len (z.cells.toList.map absC) ++ es.drop (off + len))) = σ := fun h => by
        subst h
        simp only [Nat.add_zero, List.replicate_zero, List.append_nil, List.take_append_drop]
        funext j
        by_cases hj : j = k
        · subst hj; rw [upd_same, hk]
        · rw [upd_ne _ hj]
      have run0 : ∀ a c, X = .slice a 0 c → (Builtin.clear_ #[t] ty #[X]).run P w = .ok (.tuple #[]) w := fun a c h => by
        subst h
        cases a <;> simp [Builtin.clear_, run_underlying ht]
      cases hx with
      | @own _ _ _ b base sz ct _ hρ hl =>
        obtain ⟨rfl, hle, c, e', hb, hs, hzz, hcs, hfz⟩ := hh.sz hk hρ
        by_cases hl0 : len = 0
        · rw [zero hl0]
          exact ⟨w, run0 _ _ (by rw [hl0]), Stp.refl hh⟩
        · have hzs : z.cells.size = z' := by rw [hz1]; simp
          have hpos : 0 < z.cells.size ∨ z.cells.size = 0 := by omega
          have hvs : ∀ v ∈ (Builtin.zeroCells z.cells len).toList, v.oneCell' = true := fun v hv => by
            obtain ⟨q, hq⟩ := List.getElem?_of_mem hv
            have hq' := lt_of_get hq
            have hsz : (Builtin.zeroCells z.cells len).toList.length = len * z.cells.size := by simp [Builtin.zeroCells]
            rw [hsz] at hq'
            have hp : 0 < z.cells.size := by
              rcases hpos with h | h
              · exact h
              · rw [h] at hq'; omega
            rw [Array.getElem?_toList, zeroCells_get _ _ _ hp hq'] at hq
            have hm : absC v ∈ z.cells.toList.map absC := List.mem_map.2 ⟨v, by rw [← Array.getElem?_toList] at hq; exact List.mem_of_getElem? hq, rfl⟩
            exact flat_absC (ρ := ρ) (F := F) (w := w) (hflat _ hm)
          have hsz : (Builtin.zeroCells z.cells len).toList.length = len * z' := by simp [Builtin.zeroCells, hzs]
          have hnl : (List.replicate len (z.cells.toList.map absC)).length = len := by simp
          obtain ⟨w', h1, h2⟩ := over_sound (P := P) (p := off) (new := List.replicate len (z.cells.toList.map absC)) (news := (Builtin.zeroCells z.cells len).toList) hh hk hρ (by rw [hsz, hnl])
            (fun i y hy j a ha => by
              rw [List.getElem?_replicate] at hy
              split at hy
              · rename_i hi'
                cases hy
                rw [List.getElem?_map, Option.map_eq_some_iff] at ha
                obtain ⟨v, hv, rfl⟩ := ha
                have hj : j < z' := by have := lt_of_get hv; rw [← hzs]; simpa using this
                refine ⟨v, ?_, AR.absC ρ F w v⟩
                have hq := idx_lt hi' hj
                have hm : (i * z' + j) % z.cells.size = j := by rw [hzs, Nat.mul_comm, Nat.mul_add_mod]; exact Nat.mod_eq_of_lt hj
                rw [Array.getElem?_toList, zeroCells_get _ _ _ (by omega) (by rw [hzs]; exact hq), hm, ← Array.getElem?_toList]
                exact hv
              · cases hy)
            (fun y hy => by rw [List.mem_replicate] at hy; rw [hy.2, hz1]) hvs (by rw [hnl]; exact hlen)
          rw [hnl] at h2
          refine ⟨w', ?_, h2⟩
          obtain ⟨n, rfl⟩ : ∃ n, len = n + 1 := ⟨len - 1, by omega⟩
          have hzv : (zeroValue e).run P w = .ok z w := by simp [zeroValue, typeInfo, hi, hz]
          simp [Builtin.clear_, run_underlying ht, hzv, h1]
      | ownVirt a hρ =>
        rw [zero rfl]
        exact ⟨w, run0 _ _ rfl, Stp.refl hh⟩
      | ownZero a hρ hl hzz =>
        rw [zero rfl]
        exact ⟨w, run0 _ _ rfl, Stp.refl hh⟩
      | ownDead a l c hρ _ => exact absurd hρ (hh.live hk)
    · exact hd.elim
  · exact hd.elim

end Go.Dm
