/-
  append to a row of the call's own.
  Conditions: none.
-/
import Derived.Test.YtbhlfbkheijojaaEng9
namespace Go.Dm

/-- cells that can be stored -/
def flatAll (es : List (List AV)) : Prop := ∀ x ∈ es, ∀ a ∈ x, flat a = true

/-- append to a row of the call's own: at its end (under a new key), or over what stands behind -/
def appOwn (d sz bytes : Nat) (k off len : Nat) (s : AV) (σ : Heap) : PV (AV × Ups) :=
  match σ k, srcOf s σ with
  | some (.row tag z es), some new =>
    if off + len = es.length then
      ⟨σ d = none ∧ tag ≠ .var ∧ z = sz ∧ srcOk sz s σ ∧ flatAll new ∧ (len + new.length) * bytes ≤ 140737488355328,
        (.own d 0 (len + new.length) false, [(k, .dead), (d, .row tag sz (es.drop off ++ new))])⟩
    else
      ⟨tag = .lone ∧ z = sz ∧ srcOk sz s σ ∧ flatAll new ∧ off + len + new.length ≤ es.length,
        (.own k off (len + new.length) false, [(k, .row tag sz (es.take (off + len) ++ new ++ es.drop (off + len + new.length)))])⟩
  | _, _ => ⟨False, (.any, [])⟩

/-- cells of a row, some of which are written: what the block holds then -/
theorem write_get (c : Array Value) (o : Nat) (vs : List Value) (h : o + vs.length ≤ c.size) (q : Nat) :
    (c.toList.take o ++ vs ++ c.toList.drop (o + vs.length)).toArray[q]? = if o ≤ q ∧ q < o + vs.length then vs[q - o]? else c[q]? := by
  simp only [List.getElem?_toArray]
  by_cases q1 : q < o
  · rw [List.append_assoc, List.getElem?_append_left (by simp; omega), List.getElem?_take_of_lt q1, if_neg (by omega)]; simp
  · have l1 : (c.toList.take o).length = o := by simp; omega
    rw [List.append_assoc, List.getElem?_append_right (by rw [l1]; omega), l1]
    by_cases q2 : q < o + vs.length
    · rw [List.getElem?_append_left (by omega), if_pos ⟨by omega, q2⟩]
    · rw [List.getElem?_append_right (by omega), List.getElem?_drop, if_neg (by omega)]
      simp only [Array.getElem?_toList]
      congr 1; omega

theorem CellsOf.one {P : Program} {ρ : Inj} {F : Fz} {w : World} {sz : Nat} {X : Value} {news : List Value} {src : List (List AV)} (hX : SrcIs P w X src.length sz news) (hc : CellsOf ρ F w sz news src) (hz : ∀ x ∈ src, x.length = sz)
    (hf : flatAll src) : ∀ v ∈ news, v.oneCell' = true := by
  intro v hv
  obtain ⟨q, hq, rfl⟩ := List.getElem_of_mem hv
  rw [hX.size] at hq
  have hsz : 0 < sz := by
    rcases Nat.eq_zero_or_pos sz with h | h
    · rw [h] at hq; simp at hq
    · exact h
  have hi : q / sz < src.length := Nat.div_lt_of_lt_mul (by rw [Nat.mul_comm]; exact hq)
  have hy := List.getElem?_eq_getElem hi
  have hj : q % sz < src[q / sz].length := by rw [hz _ (List.getElem_mem hi)]; exact Nat.mod_lt _ hsz
  obtain ⟨u, hu, hr⟩ := hc _ _ hy _ _ (List.getElem?_eq_getElem hj)
  have e : q / sz * sz + q % sz = q := by rw [Nat.mul_comm]; exact Nat.div_add_mod q sz
  rw [e] at hu
  have : u = news[q]'(by rw [hX.size]; exact hq) := by
    rw [List.getElem?_eq_getElem (by rw [hX.size]; exact hq)] at hu
    cases hu; rfl
  subst this
  exact flat_one hr (hf _ (List.getElem_mem hi) _ (List.getElem_mem hj))

section
variable {P : Program} {t ty u e e' : TypeId} {inf : TypeInfo} {z : Value} (ht : P.underlying t = some (.slice e)) (hi : P.info? e = some inf) (hzz : inf.zero = some z) (hu : P.underlying u = some (.slice e')) (hzc : z.cells.size = inf.size) (hbp : 0 < inf.bytes)
include ht hi hzz hu hzc hbp

theorem appOwn_sound {ρ : Inj} {F : Fz} {w : World} {σ : Heap} (hh : HR ρ F w σ) {d k off len : Nat} {s : AV} {X S : Value} (hx : AR ρ F w X (.own k off len false)) (hs : AR ρ F w S s)
    (hd : (appOwn d inf.size inf.bytes k off len s σ).dom) :
    ∃ v w' ρ', (Builtin.append_ #[t, u] ty #[X, S]).run P w = .ok v w' ∧ AR ρ' F w' v (appOwn d inf.size inf.bytes k off len s σ).val.1 ∧ Stp ρ F w ρ' F w' (updAll σ (appOwn d inf.size inf.bytes k off len s σ).val.2) := by
  unfold appOwn at hd ⊢
  split at hd
  · rename_i tag zz es new hk hn
    split at hd
    · rename_i hend
      rw [if_pos hend]
      obtain ⟨h1, h2, h3, h4, h5, h6⟩ := hd
      subst h3
      obtain ⟨news, hX, hcX⟩ := src_sound (P := P) hh hs hn h4
      have hsrc0 : srcOf (.own k off len false) σ = some (es.drop off) := by
        simp only [srcOf, hk]
        rw [List.take_of_length_le (by simp; omega)]
      have hok0 : srcOk inf.size (.own k off len false) σ := by simp [srcOk, hk]; omega
      obtain ⟨olds, hB, hcB⟩ := src_sound (P := P) hh hx hsrc0 hok0
      have hlen0 : (es.drop off).length = len := by simp; omega
      rw [hlen0] at hB
      have hkd : k ≠ d := fun e => by rw [e, h1] at hk; cases hk
      have hkill := Stp.kill hh (k := k) (by rw [hk]; simp)
      have hd2 : upd σ k .dead d = none := by rw [upd_ne _ (Ne.symm hkd)]; exact h1
      -- the value, by its capacity
      obtain ⟨a, cap, hXe, hle⟩ := hB.shape
      subst hXe
      by_cases hg : cap < len + new.length
      · -- it grows
        have hrun := app_grow (ty := ty) ht hi hzz hu hX hB hg h6 hbp
        have hcB' : CellsOf (setI ρ k .dead) F w inf.size olds (es.drop off) := fun i y hy j a ha => by
          obtain ⟨v, hv, hr⟩ := hcB i y hy j a ha; exact ⟨v, hv, hkill.ar hr⟩
        have hcX' : CellsOf (setI ρ k .dead) F w inf.size news new := fun i y hy j a ha => by
          obtain ⟨v, hv, hr⟩ := hcX i y hy j a ha; exact ⟨v, hv, hkill.ar hr⟩
        obtain ⟨ρ', q1, q2⟩ := grown_new hkill.heap hd2 (tag := tag) (es.drop off) new olds news len new.length e z.cells (grownCap w (len + new.length) cap e) hlen0 rfl hB.size hX.size hcB' hcX'
          (srcOk_len hh hsrc0 hok0) (srcOk_len hh hn h4) (grownCap_ge w _ _ _) hzc
        exact ⟨_, _, ρ', hrun, q1, hkill.trans q2⟩
      · -- there is room
        cases hx with
        | ownVirt a hρ =>
          have hnew : new = [] := List.eq_nil_of_length_eq_zero (by omega)
          subst hnew
          have hnn : news = [] := List.eq_nil_of_length_eq_zero (by rw [hX.size]; simp)
          subst hnn
          have hes : es = [] := by
            cases hh.blk k _ hk with
            | virt _ _ => rfl
            | row q1 _ _ _ _ _ _ => rw [q1] at hρ; cases hρ
          subst hes
          have hrun := app_room (ty := ty) ht hi hu hX (base := a) (sLen := 0) (sCap := 0) (by simp) (w' := w) (by cases a <;> simp [storeCells])
          exact ⟨_, _, _, hrun, AR.ownVirt a (setI_same _ _ _), hkill.trans (Stp.virt hkill.heap hd2 tag inf.size h2)⟩
        | ownZero a hρ hl hz =>
          have hnew : new = [] := List.eq_nil_of_length_eq_zero (by omega)
          subst hnew
          have hnn : news = [] := List.eq_nil_of_length_eq_zero (by rw [hX.size]; simp)
          subst hnn
          rename_i b base sz' ct
          obtain ⟨p1, p2, c, ee, p3, p4, p5, p6, p7⟩ := hh.sz hk hρ
          subst p1
          have hrun := app_room (ty := ty) ht hi hu hX (base := a) (sLen := 0) (sCap := 0) (by simp) (w' := w) (by cases a <;> simp [storeCells])
          have hdrop : es.drop off = [] := List.eq_nil_of_length_eq_zero (by omega)
          refine ⟨_, _, _, hrun, AR.ownZero a (setI_same _ _ _) (Nat.zero_le _) (.inl rfl), Stp.rekey (base' := base + off * inf.size) (sz' := inf.size) (ct' := 0) hh hρ h1 _ fun ρ' hle hρ' => ?_⟩
          refine .row hρ' p3 (by simp [hdrop]) ?_ (by simp [hdrop]) (fun i x hx => by simp [hdrop] at hx) ?_
          · have : off * inf.size ≤ ct * inf.size := Nat.mul_le_mul_right _ hl
            omega
          · simp only [hdrop, List.nil_append, List.length_nil, Nat.zero_mul, Nat.add_zero]
            cases tag with
            | vec =>
              intro o ho
              have := p7 o ho
              have : es.length * inf.size ≤ off * inf.size := Nat.mul_le_mul_right _ (by omega)
              omega
            | var => exact absurd rfl h2
            | lone => exact p7
        | own hρ hl =>
          rename_i b base sz' ct
          obtain ⟨p1, p2, c, ee, p3, p4, p5, p6, p7⟩ := hh.sz hk hρ
          subst p1
          simp only [Bool.false_eq_true, if_false] at hg hle
          have hone := CellsOf.one hX hcX (srcOk_len hh hn h4) h5
          have hroom : base + off * inf.size + len * inf.size + new.length * inf.size ≤ base + ct * inf.size := by
            have : (off + len + new.length) * inf.size ≤ ct * inf.size := Nat.mul_le_mul_right _ (by omega)
            rw [Nat.add_mul, Nat.add_mul] at this; omega
          have hst := run_storeCells_at P b (base + off * inf.size + len * inf.size) ee news 0 c w p3 (by rw [hX.size]; omega) hone
          have hrun := app_room (ty := ty) ht hi hu hX (base := some ⟨b, base + off * inf.size, none⟩) (sLen := len) (sCap := ct - off) (by omega) (w' := _) (by simp only [add_off]; exact hst)
          simp only [Nat.add_zero] at hrun
          have hes : es.length * inf.size = off * inf.size + len * inf.size := by rw [← hend, Nat.add_mul]
          have hget := write_get c (base + off * inf.size + len * inf.size) news (by rw [hX.size]; omega)
          rw [hX.size] at hget
          have hsize : ((c.toList.take (base + off * inf.size + len * inf.size) ++ news ++ c.toList.drop (base + off * inf.size + len * inf.size + news.length)).toArray).size = c.size := by
            simp [hX.size]; omega
          have hnewlen := srcOk_len hh hn h4
          have s1 : Stp ρ F w ρ F (w.setRow b (c.toList.take (base + off * inf.size + len * inf.size) ++ news ++ c.toList.drop (base + off * inf.size + len * inf.size + news.length)).toArray) (upd σ k (.row tag inf.size (es ++ new))) := by
            refine Stp.cells hh hk hρ p3 _ hsize (by simp; omega) (fun x hx => ?_) (fun i x hx j a ha => ?_) (fun o ho => ?_) ?_
            · rcases List.mem_append.1 hx with h | h
              · exact p5 x h
              · exact hnewlen x h
            · rw [hX.size, hget]
              by_cases hil : i < es.length
              · rw [List.getElem?_append_left hil] at hx
                obtain ⟨v, hv, hr⟩ := p6 i x hx j a ha
                have hj : j < inf.size := by have := lt_of_get ha; rw [p5 x (List.mem_of_getElem? hx)] at this; exact this
                have := idx_lt hil hj
                exact ⟨v, by rw [if_neg (by omega)]; exact hv, hr⟩
              · rw [List.getElem?_append_right (by omega)] at hx
                obtain ⟨v, hv, hr⟩ := hcX _ x hx j a ha
                have hj : j < inf.size := by have := lt_of_get ha; rw [hnewlen x (List.mem_of_getElem? hx)] at this; exact this
                have hi2 := lt_of_get hx
                have := idx_lt hi2 hj
                have e1 : i * inf.size = es.length * inf.size + (i - es.length) * inf.size := by rw [← Nat.add_mul]; congr 1; omega
                refine ⟨v, ?_, hr⟩
                rw [if_pos (by omega)]
                have : base + i * inf.size + j - (base + off * inf.size + len * inf.size) = (i - es.length) * inf.size + j := by omega
                rw [this]; exact hv
            · rw [hX.size, hget, if_neg]
              cases tag with
              | vec => have := p7 o ho; omega
              | var => exact absurd rfl h2
              | lone => exact absurd ho (p7 o)
            · cases tag with
              | vec =>
                intro o ho
                have := p7 o ho
                have : es.length * inf.size ≤ (es ++ new).length * inf.size := Nat.mul_le_mul_right _ (by simp)
                omega
              | var => exact absurd rfl h2
              | lone => exact p7
          have hdropl : (es ++ new).drop off = es.drop off ++ new := by rw [List.drop_append_of_le_length (by omega)]
          have hk1 : upd σ k (.row tag inf.size (es ++ new)) k = some (.row tag inf.size (es ++ new)) := upd_same _ _ _
          obtain ⟨r1, r2, c1, e1, r3, r4, r5, r6, r7⟩ := s1.heap.sz hk1 hρ
          have s2 := Stp.rekey (base' := base + off * inf.size) (sz' := inf.size) (ct' := ct - off) s1.heap hρ (d := d) (by rw [upd_ne _ (Ne.symm hkd)]; exact h1) (.row tag inf.size (es.drop off ++ new)) fun ρ' hle' hρ' => by
            refine .row hρ' r3 (by simp; omega) ?_ (fun x hx => ?_) (fun i x hx j a ha => ?_) ?_
            · have : off * inf.size + (ct - off) * inf.size = ct * inf.size := by rw [← Nat.add_mul]; congr 1; omega
              omega
            · exact r5 x (by rw [← hdropl] at hx; exact List.drop_subset _ _ hx)
            · rw [← hdropl, List.getElem?_drop] at hx
              obtain ⟨v, hv, hr⟩ := r6 _ x hx j a ha
              refine ⟨v, ?_, hr.keep (Keep.refl _ _) F.le_refl hle'⟩
              have : base + off * inf.size + i * inf.size + j = base + (off + i) * inf.size + j := by rw [Nat.add_mul]; omega
              rw [this]; exact hv
            · cases tag with
              | vec =>
                intro o ho
                have := r7 o ho
                have e2 : (es ++ new).length * inf.size = off * inf.size + (es.drop off ++ new).length * inf.size := by rw [← Nat.add_mul]; congr 1; simp; omega
                omega
              | var => exact absurd rfl h2
              | lone => exact r7
          refine ⟨_, _, setI (setI ρ k .dead) d (.at_ b (base + off * inf.size) inf.size (ct - off)), hrun, ?_, ?_⟩
          · have := @AR.own (setI (setI ρ k .dead) d (.at_ b (base + off * inf.size) inf.size (ct - off))) F (w.setRow b (c.toList.take (base + off * inf.size + len * inf.size) ++ news ++ c.toList.drop (base + off * inf.size + len * inf.size + news.length)).toArray) d 0 (len + new.length) b (base + off * inf.size) inf.size (ct - off) false (setI_same _ _ _) (by omega)
            simpa using this
          · have s3 := s1.trans s2
            have e3 : upd (upd (upd σ k (.row tag inf.size (es ++ new))) k .dead) d (.row tag inf.size (es.drop off ++ new)) = updAll σ [(k, .dead), (d, .row tag inf.size (es.drop off ++ new))] := by
              funext j
              simp only [updAll, upd]
              split
              · rfl
              · split <;> simp_all
            rw [e3] at s3
            exact s3
        | ownDead a l c hρ _ => exact absurd hρ (hh.live hk)
    · rename_i hend
      rw [if_neg hend]
      obtain ⟨h1, h3, h4, h5, h6⟩ := hd
      subst h1
      subst h3
      obtain ⟨news, hX, hcX⟩ := src_sound (P := P) hh hs hn h4
      have hone := CellsOf.one hX hcX (srcOk_len hh hn h4) h5
      have hnewlen := srcOk_len hh hn h4
      cases hx with
      | ownDead a l c hρ _ => exact absurd hρ (hh.live hk)
      | ownVirt a hρ =>
        cases hh.blk k _ hk with
        | virt _ _ => simp at hend
        | row q1 _ _ _ _ _ _ => rw [q1] at hρ; cases hρ
      | ownZero a hρ hl hz =>
        exfalso
        have := (hh.sz hk hρ).2.1
        rcases hz with hz | hz
        · omega
        · cases hz
      | own hρ hl =>
        rename_i b base sz' ct
        obtain ⟨p1, p2, c, ee, p3, p4, p5, p6, p7⟩ := hh.sz hk hρ
        subst p1
        have hroom : base + off * inf.size + len * inf.size + new.length * inf.size ≤ base + es.length * inf.size := by
          have : (off + len + new.length) * inf.size ≤ es.length * inf.size := Nat.mul_le_mul_right _ (by omega)
          rw [Nat.add_mul, Nat.add_mul] at this; omega
        have hct : es.length * inf.size ≤ ct * inf.size := Nat.mul_le_mul_right _ p2
        have hst := run_storeCells_at P b (base + off * inf.size + len * inf.size) ee news 0 c w p3 (by rw [hX.size]; omega) hone
        have hrun := app_room (ty := ty) ht hi hu hX (base := some ⟨b, base + off * inf.size, none⟩) (sLen := len) (sCap := ct - off) (by omega) (w' := _) (by simp only [add_off]; exact hst)
        simp only [Nat.add_zero] at hrun
        have hget := write_get c (base + off * inf.size + len * inf.size) news (by rw [hX.size]; omega)
        rw [hX.size] at hget
        have hval := @AR.own ρ F (w.setRow b (c.toList.take (base + off * inf.size + len * inf.size) ++ news ++ c.toList.drop (base + off * inf.size + len * inf.size + news.length)).toArray) k off (len + new.length) b base inf.size ct false hρ (by omega)
        refine ⟨_, _, ρ, hrun, hval, ?_⟩
        refine Stp.cells hh hk hρ p3 _ (by simp [hX.size]; omega) (by simp; omega) (fun x hx => ?_) (fun i x hx j a ha => ?_) (fun o ho => absurd ho (p7 o)) p7
        · rcases List.mem_append.1 hx with h | h
          · rcases List.mem_append.1 h with h | h
            · exact p5 x (List.take_subset _ _ h)
            · exact hnewlen x h
          · exact p5 x (List.drop_subset _ _ h)
        · rw [hX.size, hget]
          have l1 : (es.take (off + len)).length = off + len := by simp; omega
          by_cases hi1 : i < off + len
          · rw [List.append_assoc, List.getElem?_append_left (by omega), List.getElem?_take_of_lt hi1] at hx
            obtain ⟨v, hv, hr⟩ := p6 i x hx j a ha
            have hj : j < inf.size := by have := lt_of_get ha; rw [p5 x (List.mem_of_getElem? hx)] at this; exact this
            have := idx_lt hi1 hj
            rw [Nat.add_mul] at this
            exact ⟨v, by rw [if_neg (by omega)]; exact hv, hr⟩
          · rw [List.append_assoc, List.getElem?_append_right (by omega), l1] at hx
            by_cases hi2 : i < off + len + new.length
            · rw [List.getElem?_append_left (by omega)] at hx
              obtain ⟨v, hv, hr⟩ := hcX _ x hx j a ha
              have hj : j < inf.size := by have := lt_of_get ha; rw [hnewlen x (List.mem_of_getElem? hx)] at this; exact this
              have := idx_lt (lt_of_get hx) hj
              have e1 : i * inf.size = (off + len) * inf.size + (i - (off + len)) * inf.size := by rw [← Nat.add_mul]; congr 1; omega
              rw [Nat.add_mul] at e1
              refine ⟨v, ?_, hr⟩
              rw [if_pos (by omega)]
              have : base + i * inf.size + j - (base + off * inf.size + len * inf.size) = (i - (off + len)) * inf.size + j := by omega
              rw [this]; exact hv
            · rw [List.getElem?_append_right (by omega), List.getElem?_drop] at hx
              have e0 : off + len + new.length + (i - (off + len) - new.length) = i := by omega
              rw [e0] at hx
              obtain ⟨v, hv, hr⟩ := p6 i x hx j a ha
              have e1 : (off + len + new.length) * inf.size ≤ i * inf.size := Nat.mul_le_mul_right _ (by omega)
              rw [Nat.add_mul, Nat.add_mul] at e1
              exact ⟨v, by rw [if_neg (by omega)]; exact hv, hr⟩
  · exact hd.elim
end

end Go.Dm
