/-
  A machine-free evaluator for calls ('Go.Ev'): code, rounds, calls. Own work.
-/
import Derived.Test.YtmibjobpbmidiaaGreatEvX
namespace Go.Ev
set_option linter.unusedSimpArgs false
set_option linter.unusedVariables false
open Go Go.RowKit Go.MapKept
variable {P : Program}

theorem run_setLoop {w : World} {l : Nat} {r r' : Loop} (h : w.heap[l]? = some (.loop r)) : (setObj l (.loop r')).run P w = .ok () { w with heap := w.heap.setIfInBounds l (.loop r') } := by
  simp [setObj, Sem.run, h]

/-- A loop's record is written. -/
theorem Rel.loopSet {B : Nat} {W w : World} {m : Mp} {H : Heap} (hr : Rel P B W w m H) {l : Nat} {i : Inf} {d n : Nat} {T : TT} {ps : List Pa} {asg body : C} {s : LoopState} {j : Option Ex} (hg : H.get l = some (.loop d n T ps asg body s j)) (hm : m l = some i) :
    ∃ r : Loop, w.heap[i.blk]? = some (.loop r) ∧ TR m d n T r.tmps ∧ r.params.toList.map (pa d) = ps ∧ (∀ p ∈ r.params.toList, p < n) ∧ compC P d n r.assign = some asg ∧ compC P d n r.body = some body ∧ r.state = s ∧ r.pending = jumpOf j ∧
      ∀ (s' : LoopState) (j' : Option Ex), Rel P B W { w with heap := w.heap.setIfInBounds i.blk (.loop { r with state := s', pending := jumpOf j' }) } m (H.set l (some (.loop d n T ps asg body s' j'))) := by
  obtain ⟨r, h1, h2, h3, h4, h5, h6, h7, h8⟩ := hr.obj l _ i hg hm
  refine ⟨r, h1, h2, h3, h4, h5, h6, h7, h8, fun s' j' => ?_⟩
  have hlt := (hr.fresh l i hm).2
  refine hr.write hg hm rfl rfl ?_ (by simp) (fun k hk => ?_) ⟨{ r with state := s', pending := jumpOf j' }, ?_, h2, h3, h4, h5, h6, rfl, rfl⟩
  · refine hr.below.trans ⟨rfl, rfl, rfl, by simp, fun k hk => ?_⟩
    have := hr.own l _ i hg hm rfl
    simp only [Array.getElem?_setIfInBounds]
    rw [if_neg (by omega)]
  · simp only [Array.getElem?_setIfInBounds]
    rw [if_neg (fun e => hk e.symm)]
  · simp only [Array.getElem?_setIfInBounds]
    simp [hlt]

theorem jump_out {F : Fence} {k : Nat} {Q : Exit → Act → World → Prop} {a : Act} {w : World} {Tt : TT} {D : List Nat} {H : Heap} {j : Option Ex} {e : Ex} {T' : TT} {D' : List Nat} {H' : Heap} (h : exJump Tt D H j = (e, T', D', H')) (hq : Q (exOf e) a w) :
    T' = Tt ∧ D' = D ∧ H' = H ∧ (match jumpOf j with | none => Q .normal a w | some c => c.wpIn F k P Q a w) := by
  cases j with
  | none => cases h; exact ⟨rfl, rfl, rfl, hq⟩
  | some x =>
    cases h
    refine ⟨rfl, rfl, rfl, ?_⟩
    cases e with
    | normal => exact hq
    | exit id => exact wpIn_exit hq
    | ret => exact wpIn_ret hq

theorem jump_eqs {Tt : TT} {D : List Nat} {H : Heap} {j : Option Ex} {e : Ex} {T' : TT} {D' : List Nat} {H' : Heap} (h : exJump Tt D H j = (e, T', D', H')) : T' = Tt ∧ D' = D ∧ H' = H := by
  cases j <;> cases h <;> exact ⟨rfl, rfl, rfl⟩

theorem comp_drw {d n id : Nat} {ops : Array Oper} {ca : C} (h : compC P d n (.region id ops true) = some ca) : ∃ l, ca = .drw l := by
  unfold compC at h
  replace h := (cond_some h).2
  split at h
  · cases h; exact ⟨_, rfl⟩
  · cases h

section
variable {call : CallF} {rd : Option Nat} {d nt : Nat} {B : Nat} {W : World}

theorem exC_succ (n : Nat) (c : C) (T : TT) (D : List Nat) (H : Heap) : exC P call rd d nt (n + 1) c T D H = stepC P call rd d nt (exC P call rd d nt n) c T D H := rfl

/-- A range over a function. -/
theorem sound_range (T : Told P call) {g : Operand} {ps : Array Tmp} {asg body : Code} {ca cb : C} (hg1 : opdOk g = true) (hg2 : inN nt g = true) (hps : ∀ p ∈ ps.toList, p < nt) (h1 : compC P d nt asg = some ca) (h2 : compC P d nt body = some cb)
    {Tt : TT} {D : List Nat} {H : Heap} {e : Ex} {T' : TT} {D' : List Nat} {H' : Heap} (he : o_range call rd d nt (av Tt (od d g)) (ps.toList.map (pa d)) ca cb Tt D H = some (e, T', D', H'))
    {m : Mp} {a : Act} {w : World} {F : Fence} {k : Nat} (ha : Around m rd F) (st : St P B W m H d nt Tt D a w) : (Code.rangeFunc g ps asg body).wpIn F k P (Post P B W m H d nt e T' D' H') a w := by
  unfold o_range at he
  split at he
  · cases he
  rename_i D1 H1 hm
  unfold o_over at he
  split at he
  case h_2 => cases he
  rename_i f x y hfv
  obtain ⟨hl, he⟩ := cond_some he
  simp only [blt_dec, decide_eq_true_eq] at hl
  unfold o_left at he
  split at he
  case h_2 => cases he
  rename_i v0 H2 hcall
  split at he
  case h_2 => cases he
  rename_i d' n' T2 ps' asg' b' s j hget
  have hs : s ≠ .busy := by intro e; subst e; cases he
  have he' : some (exJump Tt D1 (H2.set H1.next (some (.loop d' n' T2 ps' asg' b' .exhausted j))) j) = some (e, T', D', H') := by
    cases s <;> first | exact he | exact absurd rfl hs
  clear he
  simp only [Option.some.injEq] at he'
  refine wpIn_rangeFunc fun fn _ => ?_
  obtain ⟨mark, w1, m1, i, r1, r2, st1, e1⟩ := sound_enter st ha hm hl hps h1 h2 fn
  have hgv := av_rel st1.tr (a := { a with defers := mark ++ a.defers }) hg1 hg2
  rw [hfv] at hgv
  have hev : Act.eval { a with defers := mark ++ a.defers } g = a.eval g := by cases g <;> rfl
  rw [hev] at hgv
  cases hfe : a.eval g with
  | func fv c dd =>
    rw [hfe] at hgv
    cases hgv with
    | fn _ _ _ _ _ q1 q2 q3 q4 =>
      have hA : VRs m1 x.toList c.toList := ⟨by simpa using q1, fun j => by have := q3 j; simpa [Array.getD_eq_getD_getElem?, List.getD_eq_getElem?_getD] using this⟩
      have hB : VRs m1 y.toList dd.toList := ⟨by simpa using q2, fun j => by have := q4 j; simpa [Array.getD_eq_getD_getElem?, List.getD_eq_getElem?_getD] using this⟩
      have hY : VRs m1 [Value.func (.yield H1.next) #[] #[]] [Value.func (.yield i.blk) #[] #[]] := VRs.cons (.yld r2) (VRs.nil m1)
      have hall : VRs m1 (x.toList ++ [Value.func (.yield H1.next) #[] #[]] ++ y.toList) ((c ++ #[Value.func (.yield i.blk) #[] #[]] ++ dd).toList) := by
        rw [Array.toList_append, Array.toList_append]
        exact (hA.append hY).append hB
      obtain ⟨⟨fnn, k1, k2, k3⟩, k4⟩ := T.fn st1.rel hall hcall
      refine ⟨i.blk, mark, w1, ⟨.fn (.func f) dd, c ++ #[Value.func (.yield i.blk) #[] #[]]⟩, w1, f, c ++ #[Value.func (.yield i.blk) #[] #[]] ++ dd, w1, r1, ?_, fun f' _ => ha.like.fn f', ?_, ha.like.depth, ?_⟩
      · have hcv : ∀ v, a.eval (.const v) = v := fun _ => rfl
        simp [resolve, rangeCall, Deferred.ofValue, hfe, hcv]
      · simp [invoke, run_callFunc k1 k2 k3]
      · refine CallsIn.mono (callsIn_like ha.like k4) ?_
        rintro ee w3 ⟨v', rfl, m3, _, r3, e3⟩
        have hm3 := e3.sub _ _ r2
        obtain ⟨r, b1, b2, b3, b4, b5, b6, b7, b8, b9⟩ := r3.loopSet hget hm3
        have hrun : (Instr.endLoop i.blk).run P w3 = .ok (jumpOf j) { w3 with heap := w3.heap.setIfInBounds i.blk (.loop { r with state := .exhausted, pending := jumpOf j }) } := by
          have this : ¬ (r.state = .busy) := by rw [b7]; exact hs
          have e0 : ({ r with state := .exhausted } : Loop) = { r with state := .exhausted, pending := jumpOf j } := by rw [← b8]
          simp [Instr.endLoop, run_getLoop b1, this, run_setLoop b1, e0, b8]
        have hst : St P B W m3 (H2.set H1.next (some (.loop d' n' T2 ps' asg' b' .exhausted j))) d nt Tt D1 { a with defers := mark ++ a.defers } { w3 with heap := w3.heap.setIfInBounds i.blk (.loop { r with state := .exhausted, pending := jumpOf j }) } :=
          ⟨b9 .exhausted j, st1.tr.mono e3.sub, st1.dr.mono e3.sub⟩
        obtain ⟨u1, u2, u3⟩ := jump_eqs he'
        refine ⟨jumpOf j, _, hrun, ?_⟩
        have hp : Post P B W m H d nt e T' D' H' (exOf e) { a with defers := mark ++ a.defers } { w3 with heap := w3.heap.setIfInBounds i.blk (.loop { r with state := .exhausted, pending := jumpOf j }) } := by
          subst u1 u2 u3
          exact ⟨rfl, m3, hst, e1.trans ⟨e3.sub, e3.keep, by rw [Heap.next_set]; exact e3.le⟩⟩
        exact (jump_out (F := F) (k := k) (Q := Post P B W m H d nt e T' D' H') he' hp).2.2.2
  | _ => rw [hfe] at hgv; cases hgv

theorem sound_C (T : Told P call) (hd : DrwOk P call) : ∀ (n : Nat) (c : Code) {ca : C} {Tt : TT} {D : List Nat} {H : Heap} {e : Ex} {T' : TT} {D' : List Nat} {H' : Heap}, compC P d nt c = some ca → exC P call rd d nt n ca Tt D H = some (e, T', D', H') →
    ∀ {m : Mp} {a : Act} {w : World} {F : Fence} {k : Nat}, Around m rd F → St P B W m H d nt Tt D a w → c.wpIn F k P (Post P B W m H d nt e T' D' H') a w := by
  intro n
  induction n using Nat.strongRecOn with
  | _ n ih =>
    intro c ca Tt D H e T' D' H' hc he m a w F k ha st
    cases n with
    | zero => cases he
    | succ n =>
      rw [exC_succ] at he
      have ih1 := @ih n (Nat.lt_succ_self n)
      cases c with
      | skip =>
        cases hc
        cases he
        exact wpIn_skip ⟨rfl, m, st, Ext.refl m H⟩
      | region id ops drw =>
        cases drw with
        | false =>
          unfold compC at hc
          split at hc
          · rename_i l hl
            cases hc
            simp only [stepC, o_reg] at he
            split at he
            · rename_i T1 H1 hex
              cases he
              exact wpIn_region_list (sound_reg T ha.like _ hl hex st fun _ _ h => h)
            · cases he
          · cases hc
        | true =>
          obtain ⟨l, rfl⟩ := comp_drw hc
          simp only [stepC, o_reg] at he
          split at he
          · rename_i T1 H1 hex
            cases he
            exact hd hc hex ha.like st
          · cases he
      | seq x y =>
        unfold compC at hc
        split at hc
        · rename_i cx cy hx hy
          cases hc
          simp only [stepC, o_seq] at he
          refine wpIn_seq ?_
          split at he
          · rename_i T1 D1 H1 h1
            refine wpIn_mono (ih1 x hx h1 ha st) ?_
            rintro x1 a1 w1 ⟨rfl, m1, s1, e1⟩
            exact wpIn_mono (ih1 y hy he (ha.mono e1.sub) s1) fun _ _ _ h => h.ext e1
          · rename_i hne
            refine wpIn_mono (ih1 x hx he ha st) ?_
            intro x1 a1 w1 hp
            have hx1 := hp.1
            subst hx1
            cases e with
            | normal => exact (hne _ _ _ he).elim
            | exit id => exact hp
            | ret => exact hp
        · cases hc
      | cond x p q =>
        unfold compC at hc
        obtain ⟨h0, hc⟩ := cond_some hc
        rw [Bool.and_eq_true] at h0
        split at hc
        · rename_i cx cy hx hy
          cases hc
          simp only [stepC, o_cond] at he
          split at he
          · rename_i t ht
            have hv := av_rel st.tr h0.1 h0.2
            rw [ht] at hv
            refine wpIn_cond hv.bool_eq ?_
            cases t with
            | true => exact ih1 p hx he ha st
            | false => exact ih1 q hy he ha st
          · cases he
        · cases hc
      | block id x =>
        unfold compC at hc
        split at hc
        · rename_i cx hx
          cases hc
          simp only [stepC, o_block] at he
          refine wpIn_block ?_
          split at he
          · rename_i j T1 D1 H1 h1
            refine wpIn_mono (ih1 x hx h1 ha st) ?_
            rintro x1 a1 w1 ⟨rfl, hp⟩
            simp only [exOf, Exit.inBlock]
            rw [beq_iff] at he
            by_cases hj : j = id
            · simp only [hj, decide_true, cond_true, Option.some.injEq, Prod.mk.injEq] at he
              obtain ⟨rfl, rfl, rfl, rfl⟩ := he
              rw [if_pos hj]
              exact ⟨rfl, hp⟩
            · simp only [hj, decide_false, cond_false, Option.some.injEq, Prod.mk.injEq] at he
              obtain ⟨rfl, rfl, rfl, rfl⟩ := he
              rw [if_neg hj]
              exact ⟨rfl, hp⟩
          · rename_i hne
            refine wpIn_mono (ih1 x hx he ha st) ?_
            intro x1 a1 w1 hp
            have hx1 := hp.1
            subst hx1
            cases e with
            | normal => exact hp
            | exit id => exact (hne _ _ _ _ he).elim
            | ret => exact hp
        · cases hc
      | loop x =>
        have hc0 := hc
        unfold compC at hc
        split at hc
        · rename_i cx hx
          cases hc
          refine wpIn_loop_ghost (fun j a' w' => j ≤ n + 1 ∧ ∃ Tj Dj Hj mj, exC P call rd d nt j (.loop cx) Tj Dj Hj = some (e, T', D', H') ∧ St P B W mj Hj d nt Tj Dj a' w' ∧ Ext m H mj Hj) (n + 1) ⟨Nat.le_refl _, Tt, D, H, m, he, st, Ext.refl m H⟩ ?_
          rintro j a' w' ⟨hj, Tj, Dj, Hj, mj, hex, sj, ej⟩
          cases j with
          | zero => cases hex
          | succ j =>
            rw [exC_succ] at hex
            simp only [stepC, o_seq] at hex
            have ih2 := @ih j (by omega)
            split at hex
            · rename_i T1 D1 H1 h1
              refine wpIn_mono (ih2 x hx h1 (ha.mono ej.sub) sj) ?_
              rintro x1 a1 w1 ⟨rfl, m1, s1, e1⟩
              exact ⟨j, Nat.lt_succ_self j, by omega, T1, D1, H1, m1, hex, s1, ej.trans e1⟩
            · rename_i hne
              refine wpIn_mono (ih2 x hx hex (ha.mono ej.sub) sj) ?_
              intro x1 a1 w1 hp
              have hp := hp.ext ej
              have hx1 := hp.1
              subst hx1
              cases e with
              | normal => exact (hne _ _ _ hex).elim
              | exit id => exact hp
              | ret => exact hp
        · cases hc
      | exit id =>
        cases hc
        cases he
        exact wpIn_exit ⟨rfl, m, st, Ext.refl m H⟩
      | ret =>
        cases hc
        cases he
        exact wpIn_ret ⟨rfl, m, st, Ext.refl m H⟩
      | rangeFunc g ps asg body =>
        unfold compC at hc
        obtain ⟨h0, hc⟩ := cond_some hc
        simp only [Bool.and_eq_true] at h0
        split at hc
        · rename_i cx cy hx hy
          cases hc
          exact sound_range T h0.1.1 h0.1.2 (fun p hp => by have := List.all_eq_true.1 h0.2 p hp; simpa [blt_dec] using this) hx hy he ha st
        · cases hc
      | _ => cases hc
end

end Go.Ev
