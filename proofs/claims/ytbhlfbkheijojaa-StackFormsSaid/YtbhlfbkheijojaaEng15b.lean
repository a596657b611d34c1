/-
  Ranges over maps of one's own: the iterator, its steps; the model does the same.
  Conditions: none.
-/
import Derived.Test.YtbhlfbkheijojaaEng15
import Derived.Maps.RangeRun
namespace Go.Dm
open Go.ChangeMaps (setBlock)

def MKey.av : MKey → AV
  | .i n => .t (.int .i64 n)
  | .s b => .t (.str b)
  | .p a b => .agg [.t (.int .i64 a), .t (.int .i64 b)]

theorem MKey.av_ar (ρ : Inj) (F : Fz) (w : World) (k : MKey) : AR ρ F w k.val k.av := by
  cases k with
  | i n => exact .t (.int _ _)
  | s b => exact .t (.str _)
  | p a b =>
    refine .agg rfl fun i v x h1 h2 => ?_
    match i with
    | 0 => simp at h1 h2; subst h1; subst h2; exact .t (.int _ _)
    | 1 => simp at h1 h2; subst h1; subst h2; exact .t (.int _ _)
    | i + 2 => simp at h1

/-- the entries that an iterator has not met -/
def leftL (es : Ents) (seen : List Nat) : Ents := es.filter fun e => !seen.contains e.2.2

/-- operations that may end in several ways -/
def nxOf (P : Program) (d : Nat) (ev : Operand → AV) (o : Op) (σ : Heap) : Option (PV (List (AV × Ups))) :=
  match o with
  | .range t x =>
    match P.underlying t, ev x with
    | some (.map _ _), .mapr k =>
      match σ k with
      | some (.mapl _ _ c) => some ⟨σ d = none, [(.it d, [(d, .itl (.mapr k) c [] c)])]⟩
      | _ => some ⟨False, []⟩
    | some (.map _ _), .t .nilmap => some ⟨σ d = none, [(.it d, [(d, .itl (.t .nilmap) 0 [] 0)])]⟩
    | _, _ => some ⟨False, []⟩
  | .next x false =>
    match ev x with
    | .it i =>
      match σ i with
      | some (.itl (.t .nilmap) _ _ _) => some ⟨True, [(.tup [bv false], [])]⟩
      | some (.itl (.mapr k) since seen last) =>
        match σ k with
        | some (.mapl _ es c) =>
          some ⟨(es.all fun e => decide (e.2.2 < since)) = true ∧ since ≤ last,
            match leftL es seen with
            | [] => [(.tup [bv false], [])]
            | l => l.map fun e => (.tup [bv true, e.1.av, e.2.1], [(i, .itl (.mapr k) since (seen ++ [e.2.2]) c)])⟩
        | _ => some ⟨False, []⟩
      | _ => some ⟨False, []⟩
    | _ => some ⟨False, []⟩
  | .entry x =>
    match ev x with
    | .it i =>
      match σ i with
      | some (.itl (.mapr k) _ seen last) =>
        match σ k, seen.getLast? with
        | some (.mapl _ es c), some s =>
          match es.find? (fun e => e.2.2 == s) with
          | some e => some ⟨c = last, [(.tup [e.1.av, e.2.1], [])]⟩
          | none => some ⟨False, []⟩
        | _, _ => some ⟨False, []⟩
      | _ => some ⟨False, []⟩
    | _ => some ⟨False, []⟩
  | _ => none

theorem EntsAre.find {ρ : Inj} {F : Fz} {w : World} (s : Nat) : ∀ {l : List MapEntry} {es : Ents}, l.length = es.length →
    (∀ (i : Nat) (x : MKey × AV × Nat), es[i]? = some x → ∃ v, l[i]? = some { key := x.1.val, val := v, born := x.2.2 } ∧ AR ρ F w v x.2.1) → ∀ {x : MKey × AV × Nat}, es.find? (fun e => e.2.2 == s) = some x →
    ∃ v, l.find? (·.born == s) = some { key := x.1.val, val := v, born := x.2.2 } ∧ AR ρ F w v x.2.1
  | [], [], _, _, x, h => by simp at h
  | [], _ :: _, hl, _, x, _ => by simp at hl
  | _ :: _, [], hl, _, x, _ => by simp at hl
  | e :: l, y :: es, hl, ha, x, h => by
    obtain ⟨v, h1, h2⟩ := ha 0 y rfl
    simp only [List.getElem?_cons_zero, Option.some.injEq] at h1
    subst h1
    rw [List.find?_cons] at h ⊢
    by_cases hs : (y.2.2 == s) = true
    · rw [hs] at h
      simp only [Option.some.injEq] at h
      subst h
      simp only [hs]
      exact ⟨v, rfl, h2⟩
    · have hs' : (y.2.2 == s) = false := by simpa using hs
      rw [hs'] at h
      simp only [hs']
      exact EntsAre.find s (by simpa using hl) (fun i x hx => ha (i + 1) x (by simpa using hx)) h

theorem setBlock_setO (w : World) (r : Nat) (o : Obj) : setBlock w r o = setO w r o := rfl

theorem Stp.setItl {ρ : Inj} {F : Fz} {w : World} {σ : Heap} (hh : HR ρ F w σ) {i b base sz ct : Nat} {m : Option Nat} {s0 l0 : Nat} {sn : Array Nat} (hρ : ρ i = some (.at_ b base sz ct)) (hb : w.heap[b]? = some (.mapIter m s0 sn l0))
    {src : AV} (hm : AR ρ F w (.map m) src) (since last : Nat) (seen : List Nat) :
    Stp ρ F w ρ F (setBlock w b (.mapIter m since seen.toArray last)) (upd σ i (.itl src since seen last)) := by
  rw [setBlock_setO]
  have hkeep : Keep F w (setO w b (.mapIter m since seen.toArray last)) := by
    refine ⟨fun x c e fz hx => ⟨c, ?_, rfl, fun _ _ => rfl⟩, fun q es' cl' hq hx => ?_⟩
    · have : x ≠ b := fun e' => by subst e'; rw [hb] at hx; cases hx
      rw [(setO_only w b _).other x this]; exact hx
    · have : q ≠ b := fun e' => by subst e'; rw [hb] at hx; cases hx
      rw [(setO_only w b _).other q this]; exact hx
  refine Stp.turn hh hρ (setO_only w b _) hkeep F.le_refl (fun n o h => .inl h) (fun r h => .inl h) (fun o ho => ?_) (fun ho => ?_) _ ?_
  · obtain ⟨c, e, fz, hx⟩ := hh.fzc b o ho
    rw [hb] at hx; cases hx
  · obtain ⟨es, cl, hx⟩ := hh.fzo b ho
    rw [hb] at hx; cases hx
  · exact .itl hρ (setO_get hb) (hm.keep hkeep F.le_refl ρ.le_refl)

section
variable {P : Program} {ρ : Inj} {F : Fz} {w : World} {σ : Heap} {a : Act} {ts : List AV} (hv : ValsAR ρ F w a.tmps ts) (hh : HR ρ F w σ)
include hv hh

theorem nx_sound {o : Oper} {d : Nat} {r : PV (List (AV × Ups))} (hr : nxOf P d (evO ts) o.op σ = some r) (hd : r.dom) :
    ∃ v w' ρ' F', Ends P a o w v w' ∧ ∃ x ∈ r.val, AR ρ' F' w' v x.1 ∧ Stp ρ F w ρ' F' w' (updAll σ x.2) := by
  unfold nxOf at hr
  split at hr
  · rename_i t x ho
    have hx := AR.evO hv x
    split at hr
    · rename_i kt e k hu hk
      rw [hk] at hx
      split at hr
      · rename_i kd es c hkk
        simp only [Option.some.injEq] at hr
        subst hr
        generalize hX : a.eval x = X at hx
        cases hh.blk k _ hkk with
        | mapl hρ' hb hs ha hkd hn hf =>
          cases hx with
          | maprDead r hρ => rw [hρ] at hρ'; cases hρ'
          | mapr hρ =>
            rw [hρ] at hρ'
            cases hρ'
            have hst := Stp.newItl hh hd (src := .mapr k) (AR.mapr hρ) c
            refine ⟨_, _, _, F, .inl ?_, _, List.mem_singleton.2 rfl, AR.it (setI_same _ _ _), hst⟩
            simp [execOp, ho, Instr.range, run_underlying hu, hX, getObj, Sem.run, hb]
      · simp only [Option.some.injEq] at hr
        subst hr
        exact hd.elim
    · rename_i kt e hu hk
      rw [hk] at hx
      simp only [Option.some.injEq] at hr
      subst hr
      generalize hX : a.eval x = X at hx
      cases hx with | t hx =>
      cases hx
      have hst := Stp.newItl hh hd (src := .t .nilmap) (m := none) (AR.t .nilmap) 0
      refine ⟨_, _, _, F, .inl ?_, _, List.mem_singleton.2 rfl, AR.it (setI_same _ _ _), hst⟩
      simp [execOp, ho, Instr.range, run_underlying hu, hX]
    · simp only [Option.some.injEq] at hr
      subst hr
      exact hd.elim
  · rename_i x ho
    have hx := AR.evO hv x
    split at hr
    · rename_i i hi
      rw [hi] at hx
      generalize hX : a.eval x = X at hx
      split at hr
      · rename_i s0 sn l0 hii
        simp only [Option.some.injEq] at hr
        subst hr
        cases hh.blk i _ hii with
        | itl hρ' hb hm =>
          cases hx with
          | itDead r hρ => rw [hρ] at hρ'; cases hρ'
          | it hρ =>
            rw [hρ] at hρ'
            cases hρ'
            cases hm with | t hm =>
            cases hm
            refine ⟨.tuple #[.bool false], w, ρ, F, .inl ?_, _, List.mem_singleton.2 rfl, ?_, Stp.refl hh⟩
            · simp [execOp, ho, hX, Instr.next, getObj, Sem.run, hb]
            · exact .tup rfl fun i v a h1 h2 => by
                match i with
                | 0 => simp at h1 h2; subst h1; subst h2; exact .t (.bool _)
                | i + 1 => simp at h1
      · rename_i k since seen last hii
        split at hr
        · rename_i kd es c hkk
          simp only [Option.some.injEq] at hr
          subst hr
          obtain ⟨hall, hsl⟩ := hd
          simp only [List.all_eq_true, decide_eq_true_eq] at hall
          cases hh.blk i _ hii with
          | @itl _ _ _ bi basei szi cti _ m hρ' hb hm =>
            cases hx with
            | itDead r hρ => rw [hρ] at hρ'; cases hρ'
            | it hρ =>
              rw [hρ] at hρ'
              cases hρ'
              cases hh.blk k _ hkk with
              | @mapl _ _ bm basem szm ctm _ arr hρk hbk hs ha hkd hn hf =>
                cases hm with
                | maprDead r hρm => rw [hρm] at hρk; cases hρk
                | mapr hρm =>
                  rw [hρm] at hρk
                  cases hρk
                  have hE : EntsAre ρ F w kd arr es := ⟨hs, ha, hkd, hn⟩
                  have hold : ∀ y ∈ arr.toList, y.born < since := fun y hy => by
                    obtain ⟨j, hj⟩ := List.getElem?_of_mem hy
                    rw [Array.getElem?_toList] at hj
                    obtain ⟨z, h1, h2, _⟩ := hE.back hj
                    rw [h2]; exact hall z (List.mem_of_getElem? h1)
                  have hex : execOp a.eval o = (do pure (.value (← Instr.next (a.eval x) false o.type))) := by simp [execOp, ho]
                  have mem_left : ∀ y ∈ (leftOf arr seen.toArray).toList, ∃ z ∈ leftL es seen, y = { key := z.1.val, val := y.val, born := z.2.2 } ∧ AR ρ F w y.val z.2.1 := fun y hy => by
                    simp only [leftOf, Array.toList_filter, List.mem_filter] at hy
                    obtain ⟨hy1, hy2⟩ := hy
                    obtain ⟨j, hj⟩ := List.getElem?_of_mem hy1
                    rw [Array.getElem?_toList] at hj
                    obtain ⟨z, h1, h2, h3⟩ := hE.back hj
                    refine ⟨z, ?_, h2, h3⟩
                    unfold leftL
                    rw [List.mem_filter]
                    refine ⟨List.mem_of_getElem? h1, ?_⟩
                    rw [h2] at hy2
                    simpa using hy2
                  have left_mem : ∀ z ∈ leftL es seen, (leftOf arr seen.toArray).size ≠ 0 := fun z hz h0 => by
                    unfold leftL at hz
                    rw [List.mem_filter] at hz
                    obtain ⟨j, hj⟩ := List.getElem?_of_mem hz.1
                    obtain ⟨v, h1, _⟩ := ha j z hj
                    have hmem : ({ key := z.1.val, val := v, born := z.2.2 } : MapEntry) ∈ (leftOf arr seen.toArray).toList := by
                      simp only [leftOf, Array.toList_filter, List.mem_filter]
                      refine ⟨?_, by simpa using hz.2⟩
                      rw [← Array.getElem?_toList] at h1
                      exact List.mem_of_getElem? h1
                    have hl0 : (leftOf arr seen.toArray).toList.length = 0 := by simpa using h0
                    rw [List.eq_nil_of_length_eq_zero hl0] at hmem
                    simp at hmem
                  rcases run_next_at (P := P) w o.type bi bm since last seen.toArray arr c hb hbk hold hsl with ⟨h0, hrun⟩ | ⟨e, he, w1, hw1, hrun⟩
                  · have hl : leftL es seen = [] := by
                      cases hle : leftL es seen with
                      | nil => rfl
                      | cons z l => exact absurd h0 (left_mem z (by rw [hle]; simp))
                    refine ⟨.tuple #[.bool false], w, ρ, F, .inl ?_, (.tup [bv false], []), ?_, ?_, Stp.refl hh⟩
                    · rw [hex, hX]; simp [hrun]
                    · simp [hl]
                    · exact .tup rfl fun i v a h1 h2 => by
                        match i with
                        | 0 => simp at h1 h2; subst h1; subst h2; exact .t (.bool _)
                        | i + 1 => simp at h1
                  · obtain ⟨z, hz, hze, hzr⟩ := mem_left e he
                    have hst1 : Stp ρ F w ρ F w1 σ := by
                      rcases hw1 with rfl | rfl
                      · exact Stp.refl hh
                      · exact Stp.drew hh
                    have hb1 : w1.heap[bi]? = some (.mapIter (some bm) since seen.toArray last) := by
                      rcases hw1 with rfl | rfl
                      · exact hb
                      · exact hb
                    have hst2 := Stp.setItl hst1.heap hρ hb1 (src := .mapr k) (AR.mapr hρm) since c (seen ++ [z.2.2])
                    have hst := hst1.trans hst2
                    have hpush : seen.toArray.push e.born = (seen ++ [z.2.2]).toArray := by rw [hze]; simp
                    refine ⟨.tuple #[.bool true, e.key, e.val], _, ρ, F, .inl ?_, (.tup [bv true, z.1.av, z.2.1], [(i, .itl (.mapr k) since (seen ++ [z.2.2]) c)]), ?_, ?_, hst⟩
                    · rw [hex, hX]; simp [hrun, hpush]
                    · cases hle : leftL es seen with
                      | nil => rw [hle] at hz; simp at hz
                      | cons y l =>
                        simp only
                        rw [hle] at hz
                        exact List.mem_map.2 ⟨z, hz, rfl⟩
                    · refine .tup rfl fun j v a h1 h2 => ?_
                      match j with
                      | 0 => simp at h1 h2; subst h1; subst h2; exact .t (.bool _)
                      | 1 => simp at h1 h2; subst h1; subst h2; rw [hze]; exact MKey.av_ar _ _ _ _
                      | 2 => simp at h1 h2; subst h1; subst h2; exact hst.ar hzr
                      | j + 3 => simp at h1
        · simp only [Option.some.injEq] at hr
          subst hr
          exact hd.elim
      · simp only [Option.some.injEq] at hr
        subst hr
        exact hd.elim
    · simp only [Option.some.injEq] at hr
      subst hr
      exact hd.elim
  · rename_i x ho
    have hx := AR.evO hv x
    split at hr
    · rename_i i hi
      rw [hi] at hx
      generalize hX : a.eval x = X at hx
      split at hr
      · rename_i k since seen last hii
        split at hr
        · rename_i kd es c s hkk hss
          split at hr
          · rename_i z hz
            simp only [Option.some.injEq] at hr
            subst hr
            cases hh.blk i _ hii with
            | @itl _ _ _ bi basei szi cti _ m hρ' hb hm =>
              cases hx with
              | itDead r hρ => rw [hρ] at hρ'; cases hρ'
              | it hρ =>
                rw [hρ] at hρ'
                cases hρ'
                cases hh.blk k _ hkk with
                | @mapl _ _ bm basem szm ctm _ arr hρk hbk hs ha hkd hn hf =>
                  cases hm with
                  | maprDead r hρm => rw [hρm] at hρk; cases hρk
                  | mapr hρm =>
                    rw [hρm] at hρk
                    cases hρk
                    have hcl : c = last := hd
                    subst hcl
                    obtain ⟨v, hf1, hf2⟩ := EntsAre.find (l := arr.toList) s (by simpa using hs) (fun j y hy => by rw [Array.getElem?_toList]; exact ha j y hy) hz
                    have hback : seen.toArray.back? = some s := by simpa using hss
                    have hf1' : arr.find? (·.born == s) = some { key := z.1.val, val := v, born := z.2.2 } := by rw [← Array.find?_toList]; exact hf1
                    refine ⟨.tuple #[z.1.val, v], w, ρ, F, .inl ?_, _, List.mem_singleton.2 rfl, AR.two (MKey.av_ar _ _ _ _) hf2, Stp.refl hh⟩
                    simp [execOp, ho, hX, Instr.entry, getObj, Sem.run, hb, hbk, hss, hf1', Result.andThen]
          · simp only [Option.some.injEq] at hr
            subst hr
            exact hd.elim
        · simp only [Option.some.injEq] at hr
          subst hr
          exact hd.elim
      · simp only [Option.some.injEq] at hr
        subst hr
        exact hd.elim
    · simp only [Option.some.injEq] at hr
      subst hr
      exact hd.elim
  · cases hr

end

end Go.Dm
