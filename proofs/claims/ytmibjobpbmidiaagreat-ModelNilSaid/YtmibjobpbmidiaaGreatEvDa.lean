/-
  A machine-free evaluator for calls ('Go.Ev'): regions whose order is drawn. Own work.
-/
import Derived.Test.YtmibjobpbmidiaaGreatEvD
namespace Go.Ev
set_option linter.unusedSimpArgs false
set_option linter.unusedVariables false
open Go Go.RowKit Go.MapKept
variable {P : Program}

inductive Grow : Heap → Heap → Prop
  | refl (H : Heap) : Grow H H
  | new {H H' : Heap} (o : AObj) (h : H.next < LIM) (g : Grow (H.new o) H') : Grow H H'

/-- A block that is not there yet. -/
theorem Rel.pend {B : Nat} {W w : World} {m : Mp} {H : Heap} (h : Rel P B W w m H) (o : AObj) (hl : H.next < LIM) : Rel P B W w m (H.new o) := by
  have get : ∀ k j, m k = some j → (H.new o).get k = H.get k := fun k j hj => by
    have hf := h.fresh k j hj
    rw [Heap.get_new h.ok hl (Nat.lt_trans hf.1 hl), if_neg (Nat.ne_of_lt hf.1)]
  refine ⟨h.below, h.bsize, fun k p j hp hj => h.obj k p j (by rw [← get k j hj]; exact hp) hj, fun k p j hp hj => h.own k p j (by rw [← get k j hj]; exact hp) hj, fun k p j hp hj => h.roo k p j (by rw [← get k j hj]; exact hp) hj, ?_,
    fun k j hj => by have := h.fresh k j hj; rw [Heap.next_new]; exact ⟨by omega, this.2⟩, by rw [Heap.next_new]; exact hl, Heap.ok_new h.ok o⟩
  intro k k' p p' j j' hp hp' r r' hj hj' eb
  rw [get k j hj] at hp
  rw [get k' j' hj'] at hp'
  exact h.inj k k' p p' j j' hp hp' r r' hj hj' eb

theorem Rel.grow {B : Nat} {W w : World} {m : Mp} {H H' : Heap} (g : Grow H H') (h : Rel P B W w m H) : Rel P B W w m H' := by
  induction g with
  | refl => exact h
  | new o hl _ ih => exact ih (h.pend o hl)

section
variable {call : CallF} {HS : List Heap} {kf : Nat} {Tf : TT} {Hf : Heap}

theorem good_calm {r : Row} (h : Good P call HS r) (hn : heavyCls r.x.cls = false) : r.H' = r.H ∨ ∃ ob, r.H.next < LIM ∧ r.H' = r.H.new ob := by
  unfold Good at h
  cases hg : goes r.T r.x.ins.guard with
  | false => rw [hg, cond_false] at h; exact .inl h.2.1
  | true =>
    rw [hg, cond_true] at h
    split at h
    · exact .inl h.2
    · exact .inl h.2
    · obtain ⟨ob, v, _, _, h3, h4, _⟩ := h; exact .inr ⟨ob, h3, h4⟩
    · rename_i hc; rw [hc] at hn; cases hn
    · exact h.elim

theorem good_mono {r : Row} (h : Good P call HS r) : r.H.next ≤ r.H'.next := by
  cases hn : heavyCls r.x.cls with
  | false =>
    rcases good_calm h hn with e | ⟨ob, _, e⟩
    · rw [e]; exact Nat.le_refl _
    · rw [e, Heap.next_new]; omega
  | true =>
    unfold Good at h
    cases hg : goes r.T r.x.ins.guard with
    | false => rw [hg, cond_false] at h; rw [h.2.1]; exact Nat.le_refl _
    | true =>
      rw [hg, cond_true] at h
      split at h
      · rename_i hc _; rw [hc] at hn; cases hn
      · rename_i hc _; rw [hc] at hn; cases hn
      · rename_i hc _; rw [hc] at hn; cases hn
      · exact h.2.2
      · exact h.elim

theorem good_heavy {r : Row} (h : Good P call HS r) (hn : heavyCls r.x.cls = true) : HS[r.k]? = some r.H := by
  unfold Good at h
  cases hg : goes r.T r.x.ins.guard with
  | false => rw [hg, cond_false] at h; exact h.2.2 hn
  | true =>
    rw [hg, cond_true] at h
    split at h
    · rename_i hc _; rw [hc] at hn; cases hn
    · rename_i hc _; rw [hc] at hn; cases hn
    · rename_i hc _; rw [hc] at hn; cases hn
    · exact h.1
    · exact h.elim

noncomputable def putAll (T : TT) (rows : List Row) : TT := rows.foldl (fun T r => putT T r.x.ins.dst r.v) T

theorem chain_at : ∀ {rows : List Row} {k : Nat} {T : TT} {H : Heap}, Chain kf Tf Hf k T H rows → ∀ pre r post, rows = pre ++ r :: post → r.T = putAll T pre ∧ k ≤ r.k ∧ Chain kf Tf Hf (r.k + hv r.x) (putT r.T r.x.ins.dst r.v) r.H' post
  | [], _, _, _, _, pre, r, post, e => by cases pre <;> cases e
  | y :: rows, k, T, H, h, pre, r, post, e => by
    obtain ⟨h1, h2, h3, h4⟩ := h
    cases pre with
    | nil =>
      simp only [List.nil_append, List.cons.injEq] at e
      obtain ⟨rfl, rfl⟩ := e
      exact ⟨h2, Nat.le_of_eq h1.symm, by rw [h1, h2]; exact h4⟩
    | cons p pre =>
      simp only [List.cons_append, List.cons.injEq] at e
      obtain ⟨rfl, rfl⟩ := e
      obtain ⟨g1, g2, g3⟩ := chain_at h4 pre r post rfl
      exact ⟨g1, by omega, g3⟩

theorem chain_T : ∀ {rows : List Row} {k : Nat} {T : TT} {H : Heap}, Chain kf Tf Hf k T H rows → Tf = putAll T rows
  | [], _, _, _, h => h.2.1.symm
  | y :: rows, k, T, H, h => by
    show Tf = putAll (putT T y.x.ins.dst y.v) rows
    exact chain_T h.2.2.2

theorem chain_le : ∀ {rows : List Row} {k : Nat} {T : TT} {H : Heap}, Chain kf Tf Hf k T H rows → (∀ r ∈ rows, Good P call HS r) → k ≤ kf ∧ H.next ≤ Hf.next ∧ ∀ r ∈ rows, H.next ≤ r.H.next ∧ k ≤ r.k ∧ (heavyCls r.x.cls = true → r.k < kf)
  | [], k, _, _, h, _ => by
    obtain ⟨rfl, _, rfl⟩ := h
    exact ⟨Nat.le_refl _, Nat.le_refl _, by simp⟩
  | y :: rows, k, T, H, h, hg => by
    obtain ⟨h1, h2, h3, h4⟩ := h
    obtain ⟨g1, g2, g3⟩ := chain_le h4 fun r hr => hg r (by simp [hr])
    have gm := good_mono (hg y (by simp))
    refine ⟨by omega, by rw [← h3]; omega, fun r hr => ?_⟩
    rcases List.mem_cons.1 hr with rfl | hr
    · refine ⟨by rw [h3]; exact Nat.le_refl _, by omega, fun hh => ?_⟩
      have : hv r.x = 1 := by simp [hv, hh]
      omega
    · obtain ⟨a, b, c⟩ := g3 r hr
      exact ⟨by rw [← h3]; omega, by omega, c⟩

/-- A heavy one of each stage. -/
theorem chain_stage : ∀ {rows : List Row} {k : Nat} {T : TT} {H : Heap}, Chain kf Tf Hf k T H rows → ∀ pre r post, rows = pre ++ r :: post → ∀ j, k ≤ j → j < r.k → ∃ p ∈ pre, heavyCls p.x.cls = true ∧ p.k = j
  | [], _, _, _, _, pre, r, post, e, j, _, _ => by cases pre <;> cases e
  | y :: rows, k, T, H, h, pre, r, post, e, j, hj1, hj2 => by
    obtain ⟨h1, h2, h3, h4⟩ := h
    cases pre with
    | nil =>
      simp only [List.nil_append, List.cons.injEq] at e
      obtain ⟨rfl, rfl⟩ := e
      omega
    | cons p pre =>
      simp only [List.cons_append, List.cons.injEq] at e
      obtain ⟨rfl, rfl⟩ := e
      cases hh : heavyCls y.x.cls with
      | true =>
        have hv1 : hv y.x = 1 := by simp [hv, hh]
        rcases Nat.lt_or_ge k j with hlt | hge
        · obtain ⟨p, p1, p2⟩ := chain_stage h4 pre r post rfl j (by omega) hj2
          exact ⟨p, by simp [p1], p2⟩
        · exact ⟨y, by simp, hh, by omega⟩
      | false =>
        have hv0 : hv y.x = 0 := by simp [hv, hh]
        obtain ⟨p, p1, p2⟩ := chain_stage h4 pre r post rfl j (by omega) hj2
        exact ⟨p, by simp [p1], p2⟩

theorem chain_grow : ∀ {rows : List Row} {k : Nat} {T : TT} {H : Heap}, Chain kf Tf Hf k T H rows → (∀ r ∈ rows, Good P call HS r) → HS[kf]? = some Hf → ∃ Hk, HS[k]? = some Hk ∧ Grow H Hk
  | [], k, _, _, h, _, hf => by
    obtain ⟨rfl, _, rfl⟩ := h
    exact ⟨_, hf, .refl _⟩
  | y :: rows, k, T, H, h, hg, hf => by
    obtain ⟨h1, h2, h3, h4⟩ := h
    have gy := hg y (by simp)
    cases hh : heavyCls y.x.cls with
    | true => exact ⟨y.H, by rw [← h1]; exact good_heavy gy hh, by rw [h3]; exact .refl _⟩
    | false =>
      have hv0 : hv y.x = 0 := by simp [hv, hh]
      rw [hv0, Nat.add_zero] at h4
      obtain ⟨Hk, g1, g2⟩ := chain_grow h4 (fun r hr => hg r (by simp [hr])) hf
      refine ⟨Hk, g1, ?_⟩
      rcases good_calm gy hh with e | ⟨ob, e1, e2⟩
      · rw [e, h3] at g2; exact g2
      · rw [e2] at g2; rw [← h3]; exact .new ob e1 g2

def cnt (p : Nat → Bool) (rows : List Row) : Nat := rows.countP fun r => heavyCls r.x.cls && p r.x.no

theorem cnt_le {p : Nat → Bool} {j : Nat} : ∀ {rows : List Row} {k : Nat} {T : TT} {H : Heap}, Chain kf Tf Hf k T H rows → (∀ r ∈ rows, heavyCls r.x.cls = true → p r.x.no = true → r.k < j) → cnt p rows ≤ j - k
  | [], _, _, _, _, _ => by simp [cnt]
  | y :: rows, k, T, H, h, hp => by
    obtain ⟨h1, h2, h3, h4⟩ := h
    have ih := cnt_le h4 fun r hr => hp r (by simp [hr])
    unfold cnt at ih ⊢
    rw [List.countP_cons]
    cases hh : heavyCls y.x.cls with
    | false =>
      have hv0 : hv y.x = 0 := by simp [hv, hh]
      simp only [Bool.false_and, Bool.false_eq_true, if_false]
      omega
    | true =>
      have hv1 : hv y.x = 1 := by simp [hv, hh]
      cases hpy : p y.x.no with
      | true => have := hp y (by simp) hh hpy; simp only [Bool.and_self, if_true]; omega
      | false => simp only [Bool.true_and, Bool.false_eq_true, if_false]; omega

theorem cnt_ge {p : Nat → Bool} {j : Nat} (hj : j ≤ kf) : ∀ {rows : List Row} {k : Nat} {T : TT} {H : Heap}, Chain kf Tf Hf k T H rows → (∀ r ∈ rows, heavyCls r.x.cls = true → r.k < j → p r.x.no = true) → j - k ≤ cnt p rows
  | [], k, _, _, h, _ => by
    have := h.1
    simp only [cnt, List.countP_nil]
    omega
  | y :: rows, k, T, H, h, hp => by
    obtain ⟨h1, h2, h3, h4⟩ := h
    have ih := cnt_ge hj h4 fun r hr => hp r (by simp [hr])
    unfold cnt at ih ⊢
    rw [List.countP_cons]
    cases hh : heavyCls y.x.cls with
    | false =>
      have hv0 : hv y.x = 0 := by simp [hv, hh]
      simp only [Bool.false_and, Bool.false_eq_true, if_false]
      omega
    | true =>
      have hv1 : hv y.x = 1 := by simp [hv, hh]
      rcases Nat.lt_or_ge y.k j with hlt | hge
      · have := hp y (by simp) hh hlt; simp only [this, Bool.and_self, if_true]; omega
      · omega
end

theorem fold_cnt (p : Nat → Bool) : ∀ (l : List Nat) (s : Nat), l.foldl (fun s j => cond (p j) (s + 1) s) s = s + l.countP p
  | [], s => rfl
  | x :: l, s => by
    rw [List.foldl_cons, fold_cnt p l, List.countP_cons]
    cases p x <;> simp; omega

theorem fold_cnt' (p : Nat → Bool) : ∀ (l : List Nat) (s : Nat), l.foldl (fun s j => cond (p j) s (s + 1)) s = s + l.countP fun j => !p j
  | [], s => rfl
  | x :: l, s => by
    rw [List.foldl_cons, fold_cnt' p l, List.countP_cons]
    cases p x <;> simp; omega

theorem heavies_cnt {d : Nat} {ops : Array Oper} (p : Nat → Bool) : ∀ (rows : List Row), (∀ r ∈ rows, ∃ o, ops[r.x.no]? = some o ∧ heavyCls r.x.cls = (compOp P d o).heavy) → (heavies P d ops (rows.map (·.x.no))).countP p = cnt p rows
  | [], _ => rfl
  | y :: rows, h => by
    obtain ⟨o, h1, h2⟩ := h y (by simp)
    have ih := heavies_cnt p rows fun r hr => h r (by simp [hr])
    unfold cnt heavies at ih ⊢
    rw [List.map_cons, List.filter_cons, List.countP_cons, h1]
    simp only [← h2]
    cases hh : heavyCls y.x.cls with
    | false => simp only [Bool.false_eq_true, if_false, Bool.false_and, Nat.add_zero]; exact ih
    | true => simp only [if_true, Bool.true_and, List.countP_cons]; rw [ih]

theorem exQ_pure {q : KQ} (h : q.reads = false) (ρ : Od → Value) (H H' : Heap) : exQ P ρ H q = exQ P ρ H' q := by
  cases q <;> first | rfl | cases h

theorem oeq_some {o : AObj} {x : Option AObj} (h : oeq o x = true) : ∃ o', x = some o' ∧ o'.rw = true ∧ ∀ {m : Mp} {w : World} {i : Inf}, ORel P m w i o → ORel P m w i o' := by
  unfold oeq at h
  split at h
  · rename_i cs e cs' e'
    simp only [Bool.and_eq_true, beq_iff, decide_eq_true_eq] at h
    obtain ⟨h1, rfl⟩ := h
    have h1 := veqs_eq (veq_eq 4) _ _ h1
    have hn : cs.n = cs'.n := by rw [← cs.length_toL, ← cs'.length_toL, h1]
    refine ⟨_, rfl, rfl, fun {m w i} hr => ?_⟩
    obtain ⟨C, e, fr, a1, a2, a3, a4, a5, a6⟩ := hr
    exact ⟨C, e, fr, a1, a2, a3, by rw [← hn]; exact a4, by rw [← h1, ← hn]; exact a5, a6⟩
  · exact ⟨_, rfl, rfl, fun hr => hr⟩
  · cases h

theorem mem_split {α : Type} {x : α} : ∀ {l : List α}, x ∈ l → ∃ pre post, l = pre ++ x :: post := fun h => List.append_of_mem h

end Go.Ev
