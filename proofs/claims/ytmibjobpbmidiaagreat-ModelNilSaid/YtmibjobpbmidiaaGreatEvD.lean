/-
  A machine-free evaluator for calls ('Go.Ev'): what is known of a region whose order is drawn: its order, its operations, the evaluator's run. Own work.
-/
import Derived.Test.YtmibjobpbmidiaaGreatEvX
namespace Go.Ev
set_option linter.unusedSimpArgs false
set_option linter.unusedVariables false
open Go Go.RowKit Go.MapKept
variable {P : Program}

/-! ### Sets of operations that hold what binds theirs -/

def Closed (ops : Array Oper) (S : Nat → Prop) : Prop := ∀ i o e, S i → ops[i]? = some o → e ∈ o.after.toList → Region.binds .any e = true → S e.on

theorem anc_fold (m : Nat → Nat) (j : Nat) : ∀ (L : List Edge) (s : Nat), (L.foldl (fun s e => if Region.binds .any e then s ||| 2 ^ e.on ||| m e.on else s) s).testBit j = true →
    s.testBit j = true ∨ ∃ e ∈ L, Region.binds .any e = true ∧ (j = e.on ∨ (m e.on).testBit j = true)
  | [], s, h => .inl h
  | e :: L, s, h => by
    rw [List.foldl_cons] at h
    rcases anc_fold m j L _ h with h1 | ⟨e', h1, h2⟩
    · by_cases hb : Region.binds .any e = true
      · rw [if_pos hb] at h1
        simp only [Nat.testBit_or, Nat.testBit_two_pow, Bool.or_eq_true, decide_eq_true_eq] at h1
        rcases h1 with (h1 | h1) | h1
        · exact .inl h1
        · exact .inr ⟨e, by simp, hb, .inl h1.symm⟩
        · exact .inr ⟨e, by simp, hb, .inr h1⟩
      · rw [if_neg hb] at h1
        exact .inl h1
    · exact .inr ⟨e', by simp [h1], h2⟩

theorem anc_closed {ops : Array Oper} {S : Nat → Prop} (hS : Closed ops S) : ∀ (l : List Nat) (m : Nat → Nat), (∀ i j, S i → (m i).testBit j = true → S j) → ∀ i j, S i → (ancs ops l m i).testBit j = true → S j
  | [], m, hm => hm
  | x :: l, m, hm => by
    refine anc_closed hS l _ fun i j hi hb => ?_
    simp only [beq_iff] at hb
    by_cases e : i = x
    · subst e
      simp only [decide_true, cond_true] at hb
      cases ho : ops[i]? with
      | none => rw [ho] at hb; simp at hb
      | some o =>
        rw [ho] at hb
        simp only [← Array.foldl_toList] at hb
        rcases anc_fold m j _ 0 hb with h0 | ⟨e, h1, h2, h3⟩
        · simp at h0
        · have he := hS i o e hi ho h1 h2
          rcases h3 with rfl | h3
          · exact he
          · exact hm _ _ he h3
    · simp only [e, decide_false, cond_false] at hb
      exact hm i j hi hb

/-! ### The order -/

theorem order_all {ops : Array Oper} : ∀ {l done : List Nat}, orderOk ops l done = true → ∀ i, i < ops.size → i ∈ done ∨ i ∈ l
  | [], done, h, i, hi => by
    have := List.all_eq_true.1 h i (List.mem_range.2 hi)
    exact .inl (by simpa using this)
  | x :: l, done, h, i, hi => by
    simp only [orderOk, Bool.and_eq_true] at h
    rcases order_all h.2 i hi with h1 | h1
    · rcases List.mem_cons.1 h1 with rfl | h1
      · exact .inr (by simp)
      · exact .inl h1
    · exact .inr (by simp [h1])

theorem order_at {ops : Array Oper} : ∀ {l done : List Nat}, orderOk ops l done = true → ∀ pre x post, l = pre ++ x :: post → x ∉ done ∧ x ∉ pre ∧ ∃ o, ops[x]? = some o ∧ ∀ e ∈ o.after.toList, Region.binds .any e = true → e.on ∈ done ∨ e.on ∈ pre
  | [], done, h, pre, x, post, e => by cases pre <;> cases e
  | y :: l, done, h, pre, x, post, e => by
    simp only [orderOk, Bool.and_eq_true] at h
    obtain ⟨⟨h1, h2⟩, h3⟩ := h
    cases pre with
    | nil =>
      simp only [List.nil_append, List.cons.injEq] at e
      obtain ⟨rfl, rfl⟩ := e
      cases ho : ops[y]? with
      | none => rw [ho] at h2; simp at h2
      | some o =>
        rw [ho] at h2
        refine ⟨by simpa using h1, by simp, o, rfl, fun e he hb => ?_⟩
        have h2 : o.after.all (fun e => !Region.binds .any e || done.contains e.on) = true := h2
        rw [Array.all_eq_true'] at h2
        have := h2 e (by simpa using he)
        rw [hb] at this
        exact .inl (by simpa using this)
    | cons p pre =>
      simp only [List.cons_append, List.cons.injEq] at e
      obtain ⟨rfl, rfl⟩ := e
      obtain ⟨g1, g2, o, g3, g4⟩ := order_at h3 pre x post rfl
      simp only [List.mem_cons, not_or] at g1
      refine ⟨g1.2, by simp [g1.1, g2], o, g3, fun e he hb => ?_⟩
      rcases g4 e he hb with k | k
      · rcases List.mem_cons.1 k with k | k
        · exact .inr (by simp [k])
        · exact .inl k
      · exact .inr (by simp [k])

/-! ### The operations -/

theorem drw_ins {d n : Nat} {ops : Array Oper} {m : Nat → Nat} {hs : List Nat} : ∀ {l : List Nat} {r : List DIns}, compDrw P d n ops m hs l = some r → r.map (·.no) = l ∧ ∀ x ∈ r, ∃ o, ops[x.no]? = some o ∧ compIns P d n ops o = some x.ins ∧ x.cls = clsOf m hs x.no x.ins.k
  | [], r, h => by cases h; exact ⟨rfl, by simp⟩
  | i :: l, r, h => by
    unfold compDrw at h
    split at h
    · cases h
    · rename_i o ho
      split at h
      · rename_i s r' h1 h2
        cases h
        obtain ⟨g1, g2⟩ := drw_ins h2
        refine ⟨by simp [g1], fun x hx => ?_⟩
        rcases List.mem_cons.1 hx with rfl | hx
        · exact ⟨o, ho, h1, rfl⟩
        · exact g2 x hx
      · cases h

def heavyCls : Cls → Bool
  | .h => true
  | _ => false

theorem cls_heavy (m : Nat → Nat) (hs : List Nat) (i : Nat) (k : K) : heavyCls (clsOf m hs i k) = k.heavy := by
  cases k with
  | q k => simp only [clsOf]; cases k.reads <;> rfl
  | _ => rfl

theorem pair_at {d : Nat} {ops : Array Oper} {m : Nat → Nat} (h : allPairs P d ops m = true) {i j : Nat} {oi oj : Oper} (hi : ops[i]? = some oi) (hj : ops[j]? = some oj) (hne : i ≠ j) :
    ((m j).testBit i = true ∨ (m i).testBit j = true ∨ ((∀ t, oi.dst = some t → t ∉ tmpsOf ops oj) ∧ (∀ t, oj.dst = some t → t ∉ tmpsOf ops oi) ∧ ((compOp P d oi).heavy && (compOp P d oj).heavy) = false)) ∧ (∀ t, oi.dst = some t → oj.dst ≠ some t) := by
  have main : ∀ {i j : Nat} {oi oj : Oper}, ops[i]? = some oi → ops[j]? = some oj → i < j → pairOk ops m i j oi oj (compOp P d oi) (compOp P d oj) = true := by
    intro i j oi oj hi hj hlt
    have li : i < ops.size := (Array.getElem?_eq_some_iff.1 hi).1
    have lj : j < ops.size := (Array.getElem?_eq_some_iff.1 hj).1
    have := List.all_eq_true.1 (List.all_eq_true.1 h i (List.mem_range.2 li)) j (List.mem_range.2 lj)
    rw [hi, hj] at this
    simp only [Bool.or_eq_true, Nat.ble_eq] at this
    rcases this with h1 | h1
    · omega
    · exact h1
  have dn : ∀ (l : List Nat) (x : Option Nat), dstIn l x = false → ∀ t, x = some t → t ∉ l := by
    intro l x h t e
    subst e
    simpa [dstIn] using h
  have dl : ∀ (x y : Option Nat), dstIn y.toList x = false → ∀ t, x = some t → y ≠ some t := by
    intro x y h t e ey
    have := dn _ _ h t e
    rw [ey] at this
    simp at this
  rcases Nat.lt_or_gt_of_ne hne with hlt | hlt
  · have := main hi hj hlt
    simp only [pairOk, Bool.and_eq_true, Bool.or_eq_true, Bool.not_eq_true'] at this
    obtain ⟨h1, h2⟩ := this
    refine ⟨?_, dl _ _ h2⟩
    rcases h1 with (h1 | h1) | ⟨⟨h1, h3⟩, h4⟩
    · exact .inl h1
    · exact .inr (.inl h1)
    · exact .inr (.inr ⟨dn _ _ h1, dn _ _ h3, h4⟩)
  · have := main hj hi hlt
    simp only [pairOk, Bool.and_eq_true, Bool.or_eq_true, Bool.not_eq_true'] at this
    obtain ⟨h1, h2⟩ := this
    refine ⟨?_, fun t e e2 => dl _ _ h2 t e2 e⟩
    rcases h1 with (h1 | h1) | ⟨⟨h1, h3⟩, h4⟩
    · exact .inr (.inl h1)
    · exact .inl h1
    · exact .inr (.inr ⟨dn _ _ h3, dn _ _ h1, by rw [Bool.and_comm]; exact h4⟩)

/-! ### The evaluator's run, row by row -/

theorem veqs_eq {f : Value → Value → Bool} (hf : ∀ a b, f a b = true → a = b) : ∀ l r, veqs f l r = true → l = r
  | [], [], _ => rfl
  | [], _ :: _, h => by cases h
  | _ :: _, [], h => by cases h
  | x :: l, y :: r, h => by
    simp only [veqs, Bool.and_eq_true] at h
    rw [hf _ _ h.1, veqs_eq hf l r h.2]

theorem veq_eq : ∀ n a b, veq n a b = true → a = b := by
  intro n
  induction n with
  | zero =>
    intro a b h
    unfold veq at h
    split at h <;> simp_all [beq_iff]
  | succ n ih =>
    intro a b h
    unfold veq at h
    split at h <;> (try simp_all [beq_iff]) 
    · obtain ⟨⟨_, h1⟩, h2⟩ := h
      exact ⟨Array.ext' (veqs_eq ih _ _ h1), Array.ext' (veqs_eq ih _ _ h2)⟩
    · exact Array.ext' (veqs_eq ih _ _ h)
    · exact Array.ext' (veqs_eq ih _ _ h)
    · exact ih _ _ h.2

structure Row where
  x : DIns
  T : TT
  H : Heap
  k : Nat
  v : Value
  H' : Heap

def Good (P : Program) (call : CallF) (HS : List Heap) (r : Row) : Prop :=
  cond (goes r.T r.x.ins.guard)
    (match r.x.cls, r.x.ins.k with
     | .p, .q q => exQ P (av r.T) r.H q = some r.v ∧ r.H' = r.H
     | .r lo hi, .q q => (∀ j Hj, lo ≤ j → j ≤ hi → HS[j]? = some Hj → exQ P (av r.T) Hj q = some r.v) ∧ r.H' = r.H
     | .a lo hi, .a a => ∃ ob v, exA (av r.T) a = some (ob, v) ∧ r.v = v.val r.H.next ∧ r.H.next < LIM ∧ r.H' = r.H.new ob ∧ (∀ j Hj, lo ≤ j → j ≤ hi → HS[j]? = some Hj → r.H.next < Hj.next ∧ oeq ob (Hj.get r.H.next) = true)
     | .h, K => HS[r.k]? = some r.H ∧ exIns P call r.T r.H K = some (r.v, r.H') ∧ r.H.next ≤ r.H'.next
     | _, _ => False)
    (r.v = undef ∧ r.H' = r.H ∧ (heavyCls r.x.cls = true → HS[r.k]? = some r.H))

def hv (x : DIns) : Nat := cond (heavyCls x.cls) 1 0

def Chain (kf : Nat) (Tf : TT) (Hf : Heap) : Nat → TT → Heap → List Row → Prop
  | k, T, H, [] => k = kf ∧ T = Tf ∧ H = Hf
  | k, T, H, r :: rs => r.k = k ∧ r.T = T ∧ r.H = H ∧ Chain kf Tf Hf (k + hv r.x) (putT T r.x.ins.dst r.v) r.H' rs

theorem again_at {q : Rec} : ∀ {HS : List Heap} {b : Nat}, again P q b HS = true → ∀ j Hj, HS[j]? = some Hj → q.lo ≤ b + j → b + j ≤ q.hi → q.ok P Hj = true
  | [], b, _, j, Hj, h, _, _ => by simp at h
  | H :: HS, b, h, j, Hj, hj, h1, h2 => by
    simp only [again, Bool.and_eq_true] at h
    cases j with
    | zero =>
      simp only [List.getElem?_cons_zero, Option.some.injEq] at hj
      subst hj
      have := h.1
      rw [show (Nat.ble q.lo b && Nat.ble b q.hi) = true by simp only [Bool.and_eq_true, Nat.ble_eq]; omega, cond_true] at this
      exact this
    | succ j =>
      simp only [List.getElem?_cons_succ] at hj
      exact again_at h.2 j Hj hj (by omega) (by omega)

theorem run_rows {call : CallF} : ∀ (L : List DIns) {T : TT} {H : Heap} {hs : List Heap} {rs : List Rec} {Tf : TT} {Hf : Heap}, exDrw P call L T H hs rs = some (Tf, Hf) →
    ∃ (rows : List Row) (HS : List Heap) (kf : Nat), rows.map (·.x) = L ∧ (∃ more, HS = hs.reverse ++ more) ∧ (∀ q ∈ rs, again P q 0 HS = true) ∧ (∀ r ∈ rows, Good P call HS r) ∧ Chain kf Tf Hf hs.length T H rows ∧ HS[kf]? = some Hf
  | [], T, H, hs, rs, Tf, Hf, h => by
    have h' : d_end P T H hs rs = some (Tf, Hf) := h
    unfold d_end at h'
    obtain ⟨h1, h2⟩ := cond_some h'
    cases h2
    refine ⟨[], hs.reverse ++ [H], hs.length, rfl, ⟨_, rfl⟩, fun q hq => List.all_eq_true.1 h1 q hq, by simp, ⟨rfl, rfl, rfl⟩, ?_⟩
    rw [List.getElem?_append_right (by simp)]
    simp
  | x :: L, T, H, hs, rs, Tf, Hf, h => by
    have h' : d_one P call x (exDrw P call L) T H hs rs = some (Tf, Hf) := h
    unfold d_one at h'
    cases hg : goes T x.ins.guard with
    | false =>
      rw [hg, cond_false] at h'
      unfold d_skip at h'
      have fin : ∀ (hs' : List Heap), exDrw P call L (putT T x.ins.dst undef) H hs' rs = some (Tf, Hf) → hs'.length = hs.length + hv x → (∃ more, hs'.reverse = hs.reverse ++ more) → (heavyCls x.cls = true → hs'.reverse[hs.length]? = some H) →
          ∃ (rows : List Row) (HS : List Heap) (kf : Nat), rows.map (·.x) = x :: L ∧ (∃ more, HS = hs.reverse ++ more) ∧ (∀ q ∈ rs, again P q 0 HS = true) ∧ (∀ r ∈ rows, Good P call HS r) ∧ Chain kf Tf Hf hs.length T H rows ∧ HS[kf]? = some Hf := by
        rintro hs' he hlen ⟨mo, hmo⟩ hh
        obtain ⟨rows, HS, kf, g1, ⟨more, g2⟩, g3, g4, g5, g6⟩ := run_rows L he
        refine ⟨⟨x, T, H, hs.length, undef, H⟩ :: rows, HS, kf, by simp [g1], ⟨mo ++ more, by rw [g2, hmo, List.append_assoc]⟩, g3, ?_, ⟨rfl, rfl, rfl, by rw [← hlen]; exact g5⟩, g6⟩
        intro r hr
        rcases List.mem_cons.1 hr with rfl | hr
        · unfold Good
          simp only [hg, cond_false]
          refine ⟨trivial, trivial, fun hc => ?_⟩
          have := hh hc
          rw [g2, List.getElem?_append_left]
          · exact this
          · rcases Nat.lt_or_ge hs.length hs'.reverse.length with h | h
            · exact h
            · rw [List.getElem?_eq_none h] at this; cases this
        · exact g4 r hr
      split at h'
      · rename_i hc
        exact fin _ h' (by simp [hv, hc, heavyCls]) ⟨[H], by simp⟩ (fun _ => by rw [List.reverse_cons, List.getElem?_append_right (by simp)]; simp)
      · rename_i hc
        have hn : heavyCls x.cls = false := by cases hcc : x.cls <;> first | rfl | exact absurd hcc hc
        exact fin _ h' (by simp [hv, hn]) ⟨[], by simp⟩ (fun e => by rw [hn] at e; cases e)
    | true =>
      rw [hg, cond_true] at h'
      have fin : ∀ (v : Value) (H' : Heap) (hs' : List Heap) (rs' : List Rec), exDrw P call L (putT T x.ins.dst v) H' hs' rs' = some (Tf, Hf) → hs'.length = hs.length + hv x → (∃ more, hs'.reverse = hs.reverse ++ more) → (∀ q ∈ rs, q ∈ rs') →
          (∀ HS, (∀ q ∈ rs', again P q 0 HS = true) → (∃ more, HS = hs'.reverse ++ more) → Good P call HS ⟨x, T, H, hs.length, v, H'⟩) →
          ∃ (rows : List Row) (HS : List Heap) (kf : Nat), rows.map (·.x) = x :: L ∧ (∃ more, HS = hs.reverse ++ more) ∧ (∀ q ∈ rs, again P q 0 HS = true) ∧ (∀ r ∈ rows, Good P call HS r) ∧ Chain kf Tf Hf hs.length T H rows ∧ HS[kf]? = some Hf := by
        rintro v H' hs' rs' he hlen ⟨mo, hmo⟩ hsub hgood
        obtain ⟨rows, HS, kf, g1, ⟨more, g2⟩, g3, g4, g5, g6⟩ := run_rows L he
        refine ⟨⟨x, T, H, hs.length, v, H'⟩ :: rows, HS, kf, by simp [g1], ⟨mo ++ more, by rw [g2, hmo, List.append_assoc]⟩, fun q hq => g3 q (hsub q hq), ?_, ⟨rfl, rfl, rfl, by rw [← hlen]; exact g5⟩, g6⟩
        intro r hr
        rcases List.mem_cons.1 hr with rfl | hr
        · exact hgood HS g3 ⟨more, g2⟩
        · exact g4 r hr
      unfold d_go at h'
      split at h'
      · rename_i q hc hk
        unfold d_p at h'
        split at h'
        · rename_i v hv'
          refine fin v H hs rs h' (by simp [hv, hc, heavyCls]) ⟨[], by simp⟩ (fun _ h => h) fun HS _ _ => ?_
          unfold Good
          simp only [hg, cond_true, hc, hk]
          exact ⟨hv', trivial⟩
        · cases h'
      · rename_i lo hi q hc hk
        unfold d_r at h'
        split at h'
        · rename_i v hv'
          refine fin v H hs _ h' (by simp [hv, hc, heavyCls]) ⟨[], by simp⟩ (fun _ h => by simp [h]) fun HS hq _ => ?_
          unfold Good
          simp only [hg, cond_true, hc, hk]
          refine ⟨fun j Hj h1 h2 hj => ?_, trivial⟩
          have := again_at (hq _ (List.mem_cons_self ..)) j Hj hj (by simpa [Rec.lo] using h1) (by simpa [Rec.hi] using h2)
          have this : (match exQ P (av T) Hj q with | some v' => veq 4 v' v | none => false) = true := this
          split at this
          · rename_i v' hv2
            rw [hv2, veq_eq _ _ _ this]
          · cases this
        · cases h'
      · rename_i lo hi k hc hk
        unfold d_a at h'
        split at h'
        · rename_i ob v hv'
          obtain ⟨hl, h2⟩ := cond_some h'
          simp only [blt_dec, decide_eq_true_eq] at hl
          refine fin _ _ hs _ h2 (by simp [hv, hc, heavyCls]) ⟨[], by simp⟩ (fun _ h => by simp [h]) fun HS hq _ => ?_
          unfold Good
          simp only [hg, cond_true, hc, hk]
          refine ⟨ob, v, hv', rfl, hl, rfl, fun j Hj h1 h2 hj => ?_⟩
          have := again_at (hq _ (List.mem_cons_self ..)) j Hj hj (by simpa [Rec.lo] using h1) (by simpa [Rec.hi] using h2)
          simp only [Rec.ok, Bool.and_eq_true, blt_dec, decide_eq_true_eq] at this
          exact this
        · cases h'
      · rename_i k hc
        unfold d_h at h'
        split at h'
        · rename_i v H' hv'
          obtain ⟨hl, h2⟩ := cond_some h'
          rw [Nat.ble_eq] at hl
          refine fin _ _ (H :: hs) _ h2 (by simp [hv, hc, heavyCls]) ⟨[H], by simp⟩ (fun _ h => h) fun HS _ hpre => ?_
          unfold Good
          simp only [hg, cond_true, hc]
          obtain ⟨more, rfl⟩ := hpre
          refine ⟨?_, hv', hl⟩
          rw [List.getElem?_append_left (by simp), List.reverse_cons, List.getElem?_append_right (by simp)]
          simp
        · cases h'
      · cases h'

end Go.Ev
