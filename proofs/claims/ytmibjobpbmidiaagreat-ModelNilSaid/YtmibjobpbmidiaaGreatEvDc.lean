/-
  A machine-free evaluator for calls ('Go.Ev'): regions whose order is drawn: their law. Own work.
-/
import Derived.Test.YtmibjobpbmidiaaGreatEvDb
namespace Go.Ev
set_option linter.unusedSimpArgs false
set_option linter.unusedVariables false
open Go Go.RowKit Go.MapKept
variable {P : Program}
section
variable {call : CallF} {d n : Nat} {ops : Array Oper} {anc : Nat → Nat} {rows : List Row} {HS : List Heap} {kf : Nat} {T0 Tf : TT} {H0 Hf : Heap} {B : Nat} {W : World} {m0 : Mp} {D : List Nat}

/-- A value put behind an operation. -/
theorem Inv.putIn (K : Known P call d n ops anc rows HS kf T0 Tf H0 Hf) {E : Nat → Prop} {k : Nat} {Hk : Heap} {m : Mp} {a : Act} {w : World} (I : Inv P d n ops rows HS kf T0 H0 B W m0 D E k Hk m a w) {r : Row} (hmem : r ∈ rows) {o : Oper} (ho : ops[r.x.no]? = some o) {m' : Mp} (s : Sub m m') {v' : Value} (hv : VR m' r.v v')
    (E' : Nat → Prop) (hE' : ∀ j, E' j ↔ j = r.x.no ∨ E j) : (a.put o.dst v').tmps.size = n ∧ (∀ t, t < n → (∀ q ∈ rows, E' q.x.no → dstOf ops q = some t → VR m' q.v ((a.put o.dst v').tmps.getD t undef)) ∧ ((∀ q ∈ rows, E' q.x.no → dstOf ops q ≠ some t) → VR m' (T0.get (pa d t)) ((a.put o.dst v').tmps.getD t undef))) := by
  have hd : dstOf ops r = o.dst := by unfold dstOf; rw [ho]; rfl
  cases hdd : o.dst with
  | none =>
    refine ⟨I.size, fun t ht => ⟨fun q hq hEq hdq => ?_, fun hall => ?_⟩⟩
    · rcases (hE' _).1 hEq with h | h
      · have := K.uniq hq hmem h
        subst this
        rw [hd, hdd] at hdq; cases hdq
      · exact ((I.tmp t ht).1 q hq h hdq).mono s
    · exact ((I.tmp t ht).2 fun q hq hEq => hall q hq ((hE' _).2 (.inr hEq))).mono s
  | some t0 =>
    rw [hdd] at hd
    have ht0 : t0 < n := by
      have := (K.dst_ins hmem).2
      rw [hd] at this
      simpa [dstOk, blt_dec] using this
    have hset : ∀ t, t < n → (a.tmps.setIfInBounds t0 v').getD t undef = if t = t0 then v' else a.tmps.getD t undef := by
      intro t ht
      rw [Array.getD_eq_getD_getElem?, Array.getElem?_setIfInBounds, Array.getD_eq_getD_getElem?]
      by_cases e : t = t0
      · subst e; simp [I.size, ht]
      · rw [if_neg (fun h => e h.symm), if_neg e]
    refine ⟨by show (a.tmps.setIfInBounds t0 v').size = n; simpa using I.size, fun t ht => ?_⟩
    show (∀ q ∈ rows, E' q.x.no → dstOf ops q = some t → VR m' q.v ((a.tmps.setIfInBounds t0 v').getD t undef)) ∧ ((∀ q ∈ rows, E' q.x.no → dstOf ops q ≠ some t) → VR m' (T0.get (pa d t)) ((a.tmps.setIfInBounds t0 v').getD t undef))
    rw [hset t ht]
    by_cases e : t = t0
    · subst e
      rw [if_pos rfl]
      refine ⟨fun q hq hEq hdq => ?_, fun hall => absurd hd (hall r hmem ((hE' _).2 (.inl rfl)))⟩
      by_cases hne : r.x.no = q.x.no
      · have := K.uniq hmem hq hne
        subst this
        exact hv
      · exact absurd hdq (K.dst_ne hmem hq hne hd)
    · rw [if_neg e]
      refine ⟨fun q hq hEq hdq => ?_, fun hall => ?_⟩
      · rcases (hE' _).1 hEq with h | h
        · have := K.uniq hq hmem h
          subst this
          rw [hd] at hdq; exact absurd (Option.some.inj hdq).symm e
        · exact ((I.tmp t ht).1 q hq h hdq).mono s
      · exact ((I.tmp t ht).2 fun q hq hEq => hall q hq ((hE' _).2 (.inr hEq))).mono s

theorem put_dr {m : Mp} {a : Act} (h : DR m D a.defers) (dst : Option Tmp) (v : Value) : DR m D (a.put dst v).defers := by rw [put_defers]; exact h

/-- One operation that is ready. -/
theorem Inv.step (Tl : Told P call) (K : Known P call d n ops anc rows HS kf T0 Tf H0 Hf) (hn : n ≤ 2 ^ d) {F : Fence} (hF : Like F) {E : Nat → Prop} {k : Nat} {Hk : Heap} {m : Mp} {a : Act} {w : World} (I : Inv P d n ops rows HS kf T0 H0 B W m0 D E k Hk m a w) {r : Row} (hmem : r ∈ rows) (hE : ¬ E r.x.no)
    {o : Oper} (ho : ops[r.x.no]? = some o) (hafter : ∀ e ∈ o.after.toList, Region.binds .any e = true → E e.on) (E' : Nat → Prop) (hE' : ∀ j, E' j ↔ j = r.x.no ∨ E j) {kk : Nat} {Kn : Act → World → Prop} {Q : Exit → Act → World → Prop}
    (hK : ∀ k' Hk' m' a' w', Inv P d n ops rows HS kf T0 H0 B W m0 D E' k' Hk' m' a' w' → Kn a' w') : wpOpIn F kk P ops Q r.x.no Kn a w := by
  obtain ⟨pre, post, hsp⟩ := mem_split hmem
  obtain ⟨o', ho', hins, hhv⟩ := K.op r hmem
  rw [ho] at ho'; cases ho'
  obtain ⟨c1, c2, c3, c4, c5⟩ := ins_some hins
  obtain ⟨hT, _, hpost⟩ := chain_at K.chain pre r post hsp
  have good := K.good r hmem
  have looks : ∀ {t : Nat}, t < n → t ∈ tmpsOf ops o → VR m (r.T.get (pa d t)) (a.tmps.getD t undef) := fun ht hl => I.looks K hn hsp hE ho hafter ht hl
  have hops : LooksR m d r.T a o.op := by
    intro x hx t e
    subst e
    have := List.all_eq_true.1 c2 _ hx
    simp only [inN, blt_dec, decide_eq_true_eq] at this
    exact looks this (List.mem_append_left _ (List.mem_filterMap.2 ⟨.tmp t, hx, rfl⟩))
  have hw : Region.wanted o (yielded ops a.tmps) = goes r.T r.x.ins.guard := by
    refine wanted_goes' I.size c5 fun j w0 t h1 h2 h3 => looks h3 (List.mem_append_right _ ?_)
    rw [h1]
    simp [h2]
  have hcl : Closed ops E' := by
    intro i o' e hi ho' he hb
    rcases (hE' i).1 hi with rfl | hi
    · rw [ho] at ho'; cases ho'; exact (hE' _).2 (.inr (hafter e he hb))
    · exact (hE' _).2 (.inr (I.closed i o' e hi ho' he hb))
  -- the stages, where the operation is heavy or not
  have stageN : heavyCls r.x.cls = false → ∀ q ∈ rows, heavyCls q.x.cls = true → (E' q.x.no ↔ q.k < k) := by
    intro hh q hq hqh
    rw [hE']
    constructor
    · rintro (h | h)
      · have := K.uniq hq hmem h
        subst this
        rw [hh] at hqh; cases hqh
      · exact (I.stage q hq hqh).1 h
    · exact fun h => .inr ((I.stage q hq hqh).2 h)
  have kinj : ∀ q ∈ rows, heavyCls q.x.cls = true → heavyCls r.x.cls = true → q.k = r.k → q = r := by
    intro q hq hqh hh e
    have hq' := hq
    rw [hsp] at hq'
    rcases List.mem_append.1 hq' with h | h
    · obtain ⟨b, c, rfl⟩ := mem_split h
      obtain ⟨_, _, hc⟩ := chain_at K.chain b q (c ++ r :: post) (by rw [hsp]; simp)
      have := ((chain_le hc fun x hx => K.good x (by rw [hsp]; simp only [List.mem_append, List.mem_cons] at hx ⊢; rcases hx with h | h | h <;> simp [h])).2.2 r (by simp)).2.1
      have hv1 : hv q.x = 1 := by simp [hv, hqh]
      omega
    · rcases List.mem_cons.1 h with h | h
      · exact h
      · have := ((chain_le hpost fun x hx => K.good x (by rw [hsp]; simp [hx])).2.2 q h).2.1
        have hv1 : hv r.x = 1 := by simp [hv, hh]
        omega
  have stageH : heavyCls r.x.cls = true → r.k = k → ∀ q ∈ rows, heavyCls q.x.cls = true → (E' q.x.no ↔ q.k < k + 1) := by
    intro hh hk q hq hqh
    rw [hE']
    constructor
    · rintro (h | h)
      · have := K.uniq hq hmem h
        subst this
        omega
      · have := (I.stage q hq hqh).1 h
        omega
    · intro h
      by_cases e : q.k = r.k
      · exact .inl (by rw [kinj q hq hqh hh e])
      · exact .inr ((I.stage q hq hqh).2 (by omega))
  have pendE : ∀ (m' : Mp), (∀ q ∈ rows, (∃ lo hi, q.x.cls = .a lo hi) → goes q.T q.x.ins.guard = true → q.x.no ≠ r.x.no → ¬ E q.x.no → m' q.H.next = none) →
      ∀ q ∈ rows, (∃ lo hi, q.x.cls = .a lo hi) → goes q.T q.x.ins.guard = true → ¬ E' q.x.no → m' q.H.next = none := by
    intro m' h q hq h1 h2 h3
    exact h q hq h1 h2 (fun e => h3 ((hE' _).2 (.inl e))) (fun e => h3 ((hE' _).2 (.inr e)))
  have order : ∀ q ∈ rows, q.x.no ≠ r.x.no → q.H'.next ≤ r.H.next ∨ r.H'.next ≤ q.H.next := by
    intro q hq hne
    have hq' := hq
    rw [hsp] at hq'
    rcases List.mem_append.1 hq' with h | h
    · obtain ⟨b, c, rfl⟩ := mem_split h
      obtain ⟨_, _, hc⟩ := chain_at K.chain b q (c ++ r :: post) (by rw [hsp]; simp)
      exact .inl ((chain_le hc fun x hx => K.good x (by rw [hsp]; simp only [List.mem_append, List.mem_cons] at hx ⊢; rcases hx with h | h | h <;> simp [h])).2.2 r (by simp)).1
    · rcases List.mem_cons.1 h with h | h
      · exact absurd (by rw [h]) hne
      · exact .inr ((chain_le hpost fun x hx => K.good x (by rw [hsp]; simp [hx])).2.2 q h).1
  have allocNext : ∀ q ∈ rows, (∃ lo hi, q.x.cls = .a lo hi) → goes q.T q.x.ins.guard = true → q.H'.next = q.H.next + 1 := by
    rintro q hq ⟨lo, hi, hc⟩ hg
    have := K.good q hq
    unfold Good at this
    rw [hg, cond_true] at this
    split at this
    · rename_i h _; rw [hc] at h; cases h
    · rename_i h _; rw [hc] at h; cases h
    · obtain ⟨ob, v, _, _, _, h4, _⟩ := this
      rw [h4, Heap.next_new]
    · rename_i h; rw [hc] at h; cases h
    · exact this.elim
  -- behind a heavy one
  have heavyEnd : heavyCls r.x.cls = true → ∀ (m' : Mp) (w' : World) (v' : Value), r.k = k → Hk = r.H → Rel P B W w' m' r.H' → Ext m r.H m' r.H' → VR m' r.v v' → Kn (a.put o.dst v') w' := by
    intro hh m' w' v' hk hHk hrel hext hv'
    have hv1 : hv r.x = 1 := by simp [hv, hh]
    rw [hv1] at hpost
    obtain ⟨H2, g1, g2⟩ := chain_grow hpost (fun x hx => K.good x (by rw [hsp]; simp [hx])) K.last
    obtain ⟨p1, p2⟩ := I.putIn K hmem ho hext.sub hv' E' hE'
    have hlt := ((chain_le K.chain K.good).2.2 r hmem).2.2 hh
    refine hK (k + 1) H2 m' _ w' ⟨hcl, by rw [← hk]; exact g1, by omega, stageH hh hk, hrel.grow g2, p1, p2, pendE m' ?_, I.sub.trans hext.sub, fun id hid => ?_, put_dr (I.dr.mono hext.sub) _ _⟩
    · intro q hq ha hg hne hnE
      have hold := I.pend q hq ha hg hnE
      have hnx := allocNext q hq ha hg
      rcases order q hq hne with h | h
      · rw [hext.keep _ (by omega)]; exact hold
      · cases e : m' q.H.next with
        | none => rfl
        | some j => have := (hrel.fresh _ _ e).1; omega
    · have h0 := ((chain_le K.chain K.good).2.2 r hmem).1
      rw [hext.keep id (by omega), I.keep id hid]
  unfold wpOpIn
  rw [ho]
  simp only [hw]
  unfold Good at good
  cases hg : goes r.T r.x.ins.guard with
  | false =>
    rw [hg, cond_false] at good
    obtain ⟨g1, g2, g3⟩ := good
    simp only [Bool.false_eq_true, if_false]
    refine ⟨fun f _ => hF.fn f, ?_⟩
    cases hh : heavyCls r.x.cls with
    | false =>
      obtain ⟨p1, p2⟩ := I.putIn K hmem ho (Sub.refl m) (v' := undef) (by rw [g1]; exact VR.undef m) E' hE'
      exact hK k Hk m _ w ⟨hcl, I.hk, I.kle, stageN hh, I.rel, p1, p2, pendE m fun q hq ha hgq _ hnE => I.pend q hq ha hgq hnE, I.sub, I.keep, put_dr I.dr _ _⟩
    | true =>
      have hk := I.next K hsp hE ho hafter hh
      have hHk : Hk = r.H := by have h1 := g3 hh; rw [hk, I.hk] at h1; exact Option.some.inj h1
      exact heavyEnd hh m w undef hk hHk (by rw [g2, ← hHk]; exact I.rel) (by rw [g2]; exact Ext.refl m r.H) (by rw [g1]; exact VR.undef m)
  | true =>
    rw [hg, cond_true] at good
    simp only [if_true]
    refine ⟨fun f _ => hF.fn f, ?_⟩
    have kcase : ∀ kq, r.x.ins.k = kq → kq ≠ .bad → compOp0 P d o = some kq := fun kq e hb => comp_some (by rw [← c4]; exact e) hb
    have readEnd : ∀ q, r.x.ins.k = .q q → heavyCls r.x.cls = false → exQ P (av r.T) Hk q = some r.v → Oper.uponIn F kk P o a Kn Q ((o.semAt F.round a.eval).run P w) := by
      intro q hk hh hq
      have hc := kcase _ hk (by simp)
      obtain ⟨v', h1, h2⟩ := sound_q I.rel hc (ops_rel' hops (comp_opd hc)) hq
      rw [comp_nodefer hc, h1]
      obtain ⟨p1, p2⟩ := I.putIn K hmem ho (Sub.refl m) h2 E' hE'
      exact hK k Hk m _ w ⟨hcl, I.hk, I.kle, stageN hh, I.rel, p1, p2, pendE m fun q hq ha hgq _ hnE => I.pend q hq ha hgq hnE, I.sub, I.keep, put_dr I.dr _ _⟩
    split at good
    · rename_i q hc hk
      have hpure : q.reads = false := by
        have hcls := hc
        cases hq : q.reads with
        | false => rfl
        | true =>
          exfalso
          exact (K.pureC r hmem q hc hk hq)
      exact readEnd q hk (by rw [hc]; rfl) (by rw [exQ_pure hpure _ Hk r.H]; exact good.1)
    · rename_i lo hi q hc hk
      obtain ⟨b1, b2⟩ := I.between K hmem hE ho hafter (.inl hc)
      exact readEnd q hk (by rw [hc]; rfl) (good.1 k Hk b1 b2 I.hk)
    · rename_i lo hi q hc hk
      obtain ⟨b1, b2⟩ := I.between K hmem hE ho hafter (.inr hc)
      obtain ⟨ob, v, e1, e2, e3, e4, e5⟩ := good
      obtain ⟨f1, f2⟩ := e5 k Hk b1 b2 I.hk
      have hcc := kcase _ hk (by simp)
      obtain ⟨⟨obj, i, v', h1, h2, h3⟩, hrw⟩ := sound_a hcc (ops_rel' hops (comp_opd hcc)) e1 w
      have hid : m r.H.next = none := I.pend r hmem ⟨lo, hi, hc⟩ hg hE
      obtain ⟨h4, h5⟩ := h3 r.H.next hid
      obtain ⟨ob', k1, k2, k3⟩ := oeq_some f2
      rw [comp_nodefer hcc, h1]
      have hget : ∀ j, j < LIM → Hk.get j = if j = r.H.next then some ob' else Hk.get j := by
        intro j _
        by_cases e : j = r.H.next
        · rw [if_pos e, e, k1]
        · rw [if_neg e]
      have hrel : Rel P B W (w.alloc obj) (put m r.H.next i) Hk := I.rel.new obj ob' i hid f1 (Nat.le_refl _) I.rel.lim I.rel.ok hget h2 k2 (k3 h4)
      have hs : Sub m (put m r.H.next i) := Sub.put hid
      obtain ⟨p1, p2⟩ := I.putIn K hmem ho hs (v' := v') (by rw [e2]; exact h5) E' hE'
      refine hK k Hk _ _ _ ⟨hcl, I.hk, I.kle, stageN (by rw [hc]; rfl), hrel, p1, p2, pendE _ fun q hq ha hgq hne hnE => ?_, I.sub.trans hs, fun id hid' => ?_, put_dr (I.dr.mono hs) _ _⟩
      · have hnx := allocNext q hq ha hgq
        have hnr := allocNext r hmem ⟨lo, hi, hc⟩ hg
        rw [put_other]
        · exact I.pend q hq ha hgq hnE
        · rcases order q hq hne with h | h <;> omega
      · have h0 := ((chain_le K.chain K.good).2.2 r hmem).1
        rw [put_other (by omega), I.keep id hid']
    · rename_i kq hc
      have hh : heavyCls r.x.cls = true := by rw [hc]; rfl
      have hk := I.next K hsp hE ho hafter hh
      obtain ⟨g1, g2, g3⟩ := good
      have hHk : Hk = r.H := by rw [hk, I.hk] at g1; exact Option.some.inj g1
      have hrel : Rel P B W w m r.H := hHk ▸ I.rel
      rw [c4] at g2
      refine upon_in hF (sound_ins Tl hrel hops g2 F.round) ?_
      rintro v' w' ⟨m', q1, q2, q3⟩
      exact heavyEnd hh m' w' v' hk hHk q2 q3 q1
    · exact good.elim

end
end Go.Ev
