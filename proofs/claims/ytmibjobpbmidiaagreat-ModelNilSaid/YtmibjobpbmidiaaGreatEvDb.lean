/-
  A machine-free evaluator for calls ('Go.Ev'): regions whose order is drawn: one operation, all of them. Own work.
-/
import Derived.Test.YtmibjobpbmidiaaGreatEvDa
namespace Go.Ev
set_option linter.unusedSimpArgs false
set_option linter.unusedVariables false
open Go Go.RowKit Go.MapKept
variable {P : Program}

def dstOf (ops : Array Oper) (r : Row) : Option Nat := (ops[r.x.no]?).bind (·.dst)

/-- What is known of a region's run. -/
structure Known (P : Program) (call : CallF) (d n : Nat) (ops : Array Oper) (anc : Nat → Nat) (rows : List Row) (HS : List Heap) (kf : Nat) (T0 Tf : TT) (H0 Hf : Heap) : Prop where
  good : ∀ r ∈ rows, Good P call HS r
  chain : Chain kf Tf Hf 0 T0 H0 rows
  last : HS[kf]? = some Hf
  op : ∀ r ∈ rows, ∃ o, ops[r.x.no]? = some o ∧ compIns P d n ops o = some r.x.ins ∧ heavyCls r.x.cls = (compOp P d o).heavy
  all : ∀ i, i < ops.size → ∃ r ∈ rows, r.x.no = i
  order : ∀ pre r post, rows = pre ++ r :: post → (∀ p ∈ pre, p.x.no ≠ r.x.no) ∧ ∀ o, ops[r.x.no]? = some o → ∀ e ∈ o.after.toList, Region.binds .any e = true → ∃ p ∈ pre, p.x.no = e.on
  ancC : ∀ S : Nat → Prop, Closed ops S → ∀ i j, S i → (anc i).testBit j = true → S j
  pair : ∀ i j oi oj, ops[i]? = some oi → ops[j]? = some oj → i ≠ j →
    ((anc j).testBit i = true ∨ (anc i).testBit j = true ∨ ((∀ t, oi.dst = some t → t ∉ tmpsOf ops oj) ∧ (∀ t, oj.dst = some t → t ∉ tmpsOf ops oi) ∧ ((compOp P d oi).heavy && (compOp P d oj).heavy) = false)) ∧ (∀ t, oi.dst = some t → oj.dst ≠ some t)
  pureC : ∀ r ∈ rows, ∀ q : KQ, r.x.cls = .p → r.x.ins.k = .q q → q.reads = true → False
  bounds : ∀ r ∈ rows, ∀ lo hi, (r.x.cls = .r lo hi ∨ r.x.cls = .a lo hi) → lo = cnt (fun j => (anc r.x.no).testBit j) rows ∧ hi = cnt (fun j => !(anc j).testBit r.x.no) rows

section
variable {call : CallF} {d n : Nat} {ops : Array Oper} {anc : Nat → Nat} {rows : List Row} {HS : List Heap} {kf : Nat} {T0 Tf : TT} {H0 Hf : Heap}

def Has (l : List Row) (i : Nat) : Prop := ∃ p ∈ l, p.x.no = i

theorem Known.pre_closed (K : Known P call d n ops anc rows HS kf T0 Tf H0 Hf) {pre rest : List Row} (h : rows = pre ++ rest) : Closed ops (Has pre) := by
  rintro i o e ⟨p, hp, rfl⟩ ho he hb
  obtain ⟨a, b, rfl⟩ := mem_split hp
  obtain ⟨q, q1, q2⟩ := (K.order a p (b ++ rest) (by rw [h]; simp)).2 o ho e he hb
  exact ⟨q, by simp [q1], q2⟩

theorem Known.uniq (K : Known P call d n ops anc rows HS kf T0 Tf H0 Hf) {r r' : Row} (h : r ∈ rows) (h' : r' ∈ rows) (e : r.x.no = r'.x.no) : r = r' := by
  obtain ⟨a, b, hab⟩ := mem_split h
  have h2 := h'
  rw [hab] at h2
  rcases List.mem_append.1 h2 with h3 | h3
  · exact absurd e.symm ((K.order a r b hab).1 r' h3)
  · rcases List.mem_cons.1 h3 with h3 | h3
    · exact h3.symm
    · obtain ⟨c, f, rfl⟩ := mem_split h3
      exact absurd e ((K.order (a ++ r :: c) r' f (by rw [hab]; simp)).1 r (by simp))

theorem Known.dst_ne (K : Known P call d n ops anc rows HS kf T0 Tf H0 Hf) {r r' : Row} (h : r ∈ rows) (h' : r' ∈ rows) (e : r.x.no ≠ r'.x.no) {t : Nat} (ht : dstOf ops r = some t) : dstOf ops r' ≠ some t := by
  obtain ⟨o, h1, _⟩ := K.op r h
  obtain ⟨o', h1', _⟩ := K.op r' h'
  unfold dstOf at ht ⊢
  rw [h1] at ht
  rw [h1']
  exact (K.pair _ _ o o' h1 h1' e).2 t ht

theorem Known.dst_ins (K : Known P call d n ops anc rows HS kf T0 Tf H0 Hf) {r : Row} (h : r ∈ rows) : r.x.ins.dst = (dstOf ops r).map (pa d) ∧ dstOk n (dstOf ops r) = true := by
  obtain ⟨o, h1, h2, _⟩ := K.op r h
  obtain ⟨c1, c2, c3, c4, c5⟩ := ins_some h2
  unfold dstOf
  rw [h1]
  exact ⟨c3, c1⟩

theorem Known.putAll_get (K : Known P call d n ops anc rows HS kf T0 Tf H0 Hf) (hn : n ≤ 2 ^ d) {t : Nat} (ht : t < n) : ∀ {l pre post : List Row} (T : TT), rows = pre ++ l ++ post →
    (∀ p ∈ l, dstOf ops p = some t → (putAll T l).get (pa d t) = p.v) ∧ ((∀ p ∈ l, dstOf ops p ≠ some t) → (putAll T l).get (pa d t) = T.get (pa d t))
  | [], _, _, T, _ => ⟨by simp, fun _ => rfl⟩
  | y :: l, pre, post, T, h => by
    have hy : y ∈ rows := by rw [h]; simp
    have e : putAll T (y :: l) = putAll (putT T y.x.ins.dst y.v) l := rfl
    obtain ⟨g1, g2⟩ := K.putAll_get hn ht (l := l) (pre := pre ++ [y]) (post := post) (putT T y.x.ins.dst y.v) (by rw [h]; simp)
    obtain ⟨c1, c2⟩ := K.dst_ins hy
    have hput : (putT T y.x.ins.dst y.v).get (pa d t) = if dstOf ops y = some t then y.v else T.get (pa d t) := by
      rw [c1]
      cases hd : dstOf ops y with
      | none => simp [putT]
      | some t' =>
        rw [hd] at c2
        simp only [dstOk, blt_dec, decide_eq_true_eq] at c2
        simp only [Option.map_some, putT]
        rw [TT.get_set d T t' t y.v (by omega) (by omega)]
        by_cases e : t = t'
        · subst e; simp
        · have : ¬ (some t' = some t) := fun h => e (Option.some.inj h).symm
          rw [if_neg e, if_neg this]
    rw [e]
    refine ⟨fun p hp hd => ?_, fun hall => ?_⟩
    · rcases List.mem_cons.1 hp with rfl | hp
      · rw [g2 ?_, hput, if_pos hd]
        intro q hq
        refine K.dst_ne hy (by rw [h]; simp [hq]) ?_ hd
        obtain ⟨a, b, rfl⟩ := mem_split hq
        exact (K.order (pre ++ p :: a) q (b ++ post) (by rw [h]; simp)).1 p (by simp)
      · exact g1 p hp hd
    · rw [g2 fun p hp => hall p (by simp [hp]), hput, if_neg (hall y (by simp))]

/-- How it stands when the operations of E have been run. -/
structure Inv (P : Program) (d n : Nat) (ops : Array Oper) (rows : List Row) (HS : List Heap) (kf : Nat) (T0 : TT) (H0 : Heap) (B : Nat) (W : World) (m0 : Mp) (D : List Nat) (E : Nat → Prop) (k : Nat) (Hk : Heap) (m : Mp) (a : Act) (w : World) : Prop where
  closed : Closed ops E
  hk : HS[k]? = some Hk
  kle : k ≤ kf
  stage : ∀ r ∈ rows, heavyCls r.x.cls = true → (E r.x.no ↔ r.k < k)
  rel : Rel P B W w m Hk
  size : a.tmps.size = n
  tmp : ∀ t, t < n → (∀ r ∈ rows, E r.x.no → dstOf ops r = some t → VR m r.v (a.tmps.getD t undef)) ∧ ((∀ r ∈ rows, E r.x.no → dstOf ops r ≠ some t) → VR m (T0.get (pa d t)) (a.tmps.getD t undef))
  pend : ∀ r ∈ rows, (∃ lo hi, r.x.cls = .a lo hi) → goes r.T r.x.ins.guard = true → ¬ E r.x.no → m r.H.next = none
  sub : Sub m0 m
  keep : ∀ id, id < H0.next → m id = m0 id
  dr : DR m D a.defers

variable {B : Nat} {W : World} {m0 : Mp} {D : List Nat}

theorem Inv.looks (K : Known P call d n ops anc rows HS kf T0 Tf H0 Hf) (hn : n ≤ 2 ^ d) {E : Nat → Prop} {k : Nat} {Hk : Heap} {m : Mp} {a : Act} {w : World} (I : Inv P d n ops rows HS kf T0 H0 B W m0 D E k Hk m a w) {pre post : List Row} {r : Row} (hr : rows = pre ++ r :: post) (hE : ¬ E r.x.no)
    {o : Oper} (ho : ops[r.x.no]? = some o) (hafter : ∀ e ∈ o.after.toList, Region.binds .any e = true → E e.on) {t : Nat} (ht : t < n) (hl : t ∈ tmpsOf ops o) : VR m (r.T.get (pa d t)) (a.tmps.getD t undef) := by
  have hmem : r ∈ rows := by rw [hr]; simp
  obtain ⟨hT, _, _⟩ := chain_at K.chain pre r post hr
  have clE : Closed ops (fun i => i = r.x.no ∨ E i) := by
    rintro i o' e hi ho' he hb
    rcases hi with rfl | hi
    · rw [ho] at ho'; cases ho'; exact .inr (hafter e he hb)
    · exact .inr (I.closed i o' e hi ho' he hb)
  have clP := K.pre_closed (pre := pre) (rest := r :: post) hr
  have clP' : Closed ops (Has (pre ++ [r])) := K.pre_closed (rest := post) (by rw [hr]; simp)
  have hnp : ¬ Has pre r.x.no := fun ⟨p, hp, e⟩ => (K.order pre r post hr).1 p hp e
  obtain ⟨g1, g2⟩ := K.putAll_get hn ht (l := pre) (pre := []) (post := r :: post) T0 (by rw [hr]; simp)
  rw [hT]
  -- bound one way or the other
  have comp : ∀ q ∈ rows, q.x.no ≠ r.x.no → dstOf ops q = some t → (anc q.x.no).testBit r.x.no = true ∨ (anc r.x.no).testBit q.x.no = true := by
    intro q hq hne hd
    obtain ⟨oq, hoq, _⟩ := K.op q hq
    rcases (K.pair _ _ oq o hoq ho hne).1 with h | h | ⟨h, _, _⟩
    · exact .inr h
    · exact .inl h
    · exact absurd hl (h t (by unfold dstOf at hd; rw [hoq] at hd; exact hd))
  by_cases hex : ∃ q ∈ rows, E q.x.no ∧ dstOf ops q = some t
  · obtain ⟨q, hq, hEq, hd⟩ := hex
    have hne : q.x.no ≠ r.x.no := fun e => hE (e ▸ hEq)
    have hqp : q ∈ pre := by
      rcases comp q hq hne hd with h | h
      · exact absurd (K.ancC E I.closed _ _ hEq h) hE
      · obtain ⟨p, hp, e⟩ := K.ancC _ clP' r.x.no q.x.no ⟨r, by simp, rfl⟩ h
        have : p ∈ rows := by
          rw [hr]
          rcases List.mem_append.1 hp with h | h
          · simp [h]
          · rw [List.mem_singleton.1 h]; simp
        have e2 := K.uniq this hq e
        subst e2
        rcases List.mem_append.1 hp with h | h
        · exact h
        · simp at h; exact absurd (by rw [h]) hne
    rw [g1 q hqp hd]
    exact (I.tmp t ht).1 q hq hEq hd
  · have hno : ∀ q ∈ rows, E q.x.no → dstOf ops q ≠ some t := fun q hq hEq hd => hex ⟨q, hq, hEq, hd⟩
    rw [g2 ?_]
    · exact (I.tmp t ht).2 hno
    · intro q hq hd
      have hqr : q ∈ rows := by rw [hr]; simp [hq]
      have hne : q.x.no ≠ r.x.no := fun e => hnp ⟨q, hq, e⟩
      rcases comp q hqr hne hd with h | h
      · exact hnp (K.ancC _ clP _ _ ⟨q, hq, rfl⟩ h)
      · rcases K.ancC _ clE _ _ (.inl rfl) h with h | h
        · exact hne h
        · exact hno q hqr h hd

/-- The next heavy one is the next. -/
theorem Inv.next (K : Known P call d n ops anc rows HS kf T0 Tf H0 Hf) {E : Nat → Prop} {k : Nat} {Hk : Heap} {m : Mp} {a : Act} {w : World} (I : Inv P d n ops rows HS kf T0 H0 B W m0 D E k Hk m a w) {pre post : List Row} {r : Row} (hr : rows = pre ++ r :: post) (hE : ¬ E r.x.no)
    {o : Oper} (ho : ops[r.x.no]? = some o) (hafter : ∀ e ∈ o.after.toList, Region.binds .any e = true → E e.on) (hh : heavyCls r.x.cls = true) : r.k = k := by
  have hmem : r ∈ rows := by rw [hr]; simp
  have h1 : ¬ (r.k < k) := fun h => hE ((I.stage r hmem hh).2 h)
  rcases Nat.lt_or_ge k r.k with hlt | hge
  · exfalso
    obtain ⟨p, hp, hph, hpk⟩ := chain_stage K.chain pre r post hr k (Nat.zero_le _) hlt
    have hpr : p ∈ rows := by rw [hr]; simp [hp]
    have hpE : ¬ E p.x.no := fun h => by have := (I.stage p hpr hph).1 h; omega
    have hne : p.x.no ≠ r.x.no := (K.order pre r post hr).1 p hp
    obtain ⟨op, hop, _, hop2⟩ := K.op p hpr
    obtain ⟨o', ho', _, ho2⟩ := K.op r hmem
    rw [ho] at ho'; cases ho'
    have clE : Closed ops (fun i => i = r.x.no ∨ E i) := by
      rintro i o' e hi ho' he hb
      rcases hi with rfl | hi
      · rw [ho] at ho'; cases ho'; exact .inr (hafter e he hb)
      · exact .inr (I.closed i o' e hi ho' he hb)
    rcases (K.pair _ _ op o hop ho hne).1 with h | h | ⟨_, _, h⟩
    · rcases K.ancC _ clE _ _ (.inl rfl) h with h | h
      · exact hne h
      · exact hpE h
    · obtain ⟨q, hq, e⟩ := K.ancC _ (K.pre_closed (rest := r :: post) hr) _ _ ⟨p, hp, rfl⟩ h
      exact (K.order pre r post hr).1 q hq e
    · rw [← hop2, ← ho2, hph, hh] at h; cases h
  · omega

/-- How many heavy ones have been. -/
theorem Inv.between (K : Known P call d n ops anc rows HS kf T0 Tf H0 Hf) {E : Nat → Prop} {k : Nat} {Hk : Heap} {m : Mp} {a : Act} {w : World} (I : Inv P d n ops rows HS kf T0 H0 B W m0 D E k Hk m a w) {r : Row} (hmem : r ∈ rows) (hE : ¬ E r.x.no)
    {o : Oper} (ho : ops[r.x.no]? = some o) (hafter : ∀ e ∈ o.after.toList, Region.binds .any e = true → E e.on) {lo hi : Nat} (hc : r.x.cls = .r lo hi ∨ r.x.cls = .a lo hi) : lo ≤ k ∧ k ≤ hi := by
  obtain ⟨rfl, rfl⟩ := K.bounds r hmem lo hi hc
  have clE : Closed ops (fun i => i = r.x.no ∨ E i) := by
    rintro i o' e hi ho' he hb
    rcases hi with rfl | hi
    · rw [ho] at ho'; cases ho'; exact .inr (hafter e he hb)
    · exact .inr (I.closed i o' e hi ho' he hb)
  have hn : heavyCls r.x.cls = false := by rcases hc with h | h <;> rw [h] <;> rfl
  constructor
  · refine Nat.le_trans (cnt_le (j := k) K.chain fun q hq hh hb => ?_) (Nat.sub_le _ _)
    rcases K.ancC _ clE _ _ (.inl rfl) hb with h | h
    · have := K.uniq hq hmem h
      subst this
      rw [hn] at hh; cases hh
    · exact (I.stage q hq hh).1 h
  · have := cnt_ge (p := fun j => !(anc j).testBit r.x.no) I.kle K.chain fun q hq hh hlt => by
      have hEq := (I.stage q hq hh).2 hlt
      cases hb : (anc q.x.no).testBit r.x.no with
      | false => rfl
      | true => exact absurd (K.ancC E I.closed _ _ hEq hb) hE
    omega

end
end Go.Ev
