/-
  A machine-free evaluator for calls ('Go.Ev'): calls and rounds are as it says. Own work.
-/
import Derived.Test.YtmibjobpbmidiaaGreatEvZ
namespace Go.Ev
set_option linter.unusedSimpArgs false
set_option linter.unusedVariables false
open Go Go.RowKit Go.MapKept
variable {P : Program}

/-- A block is written, and forgotten. -/
theorem Rel.drop {B : Nat} {W w w' : World} {m : Mp} {H : Heap} {id : Nat} {o : AObj} {i : Inf} (h : Rel P B W w m H) (hg : H.get id = some o) (hm : m id = some i) (hrw : o.rw = true)
    (hb : Below B W w') (hs : w'.heap.size = w.heap.size) (hk : ∀ k, k ≠ i.blk → w'.heap[k]? = w.heap[k]?) : Rel P B W w' m (H.set id none) := by
  have hid : id < LIM := Nat.lt_of_lt_of_le (h.fresh id i hm).1 h.lim
  have h' := h.forget id hid
  refine ⟨hb, by rw [hs]; exact h.bsize, ?_, h'.own, h'.roo, h'.inj, fun k j a => by rw [hs]; exact h'.fresh k j a, h'.lim, h'.ok⟩
  intro k p j hp hj
  refine (h'.obj k p j hp hj).of_block (hk _ fun eb => ?_)
  rw [Heap.get_set h.ok hid (Nat.lt_of_lt_of_le (h.fresh k j hj).1 h.lim)] at hp
  by_cases e : k = id
  · simp [e] at hp
  · simp only [e, if_false] at hp
    cases hr : p.rw with
    | true => exact e (h.inj k id p o j i hp hg hr hrw hj hm eb)
    | false =>
      have a := h.roo k p j hp hj hr
      have b := h.own id o i hg hm hrw
      omega

theorem sound_marks {B : Nat} {W : World} {m : Mp} {fn : Func} {tmps : Array Value} {R : Ending → World → Prop} {H2 : Heap} (hR : ∀ w2, Rel P B W w2 m H2 → ∃ v, (results fn tmps).run P w2 = .ok v w2 ∧ R (.returned v) w2) :
    ∀ {D : List Nat} {ds : List Deferred} {H : Heap} {w : World}, DR m D ds → exMarks D H = some H2 → Rel P B W w m H → LeavesInM Fence.wide 0 P fn tmps R ds .returning w
  | _, _, H, w, .nil, he, hr => by
    cases he
    exact hR w hr
  | _, _, H, w, .cons (l := l) (i := i) (D := D) (ds := ds) hm hd, he, hr => by
    unfold exMarks at he
    split at he
    · rename_i hg
      have hb : w.heap[i.blk]? = some (.deferred (some [])) := hr.obj l _ i hg hm
      refine ⟨by simp, .inl ⟨i.blk, { w with heap := w.heap.setIfInBounds i.blk (.deferred none) }, rfl, ?_, ?_⟩⟩
      · simp [Instr.takeDeferred, getObj, setObj, Sem.run, hb]
      · refine sound_marks hR hd he ?_
        refine hr.drop hg hm rfl ?_ (by simp) (fun k hk => ?_)
        · refine hr.below.trans ⟨rfl, rfl, rfl, by simp, fun k hk => ?_⟩
          have := hr.own l _ i hg hm rfl
          simp only [Array.getElem?_setIfInBounds]
          rw [if_neg (by omega)]
        · simp only [Array.getElem?_setIfInBounds]
          rw [if_neg (fun e => hk e.symm)]
    · cases he

theorem marks_next : ∀ {D : List Nat} {H H2 : Heap}, exMarks D H = some H2 → H2.next = H.next
  | [], H, H2, h => by cases h; rfl
  | d :: D, H, H2, h => by
    unfold exMarks at h
    split at h
    · exact (marks_next h).trans rfl
    · cases h

/-- A function's code is the program's. -/
def FsOk (P : Program) (fs : FuncId → Option F) : Prop := ∀ f c, fs f = some c → ∃ fn, P.funcs[f]? = some fn ∧ compF P fn = some c

theorem sound_call {call : CallF} (T : Told P call) (hd : DrwOk P call) {fn : Func} {f : FuncId} (hf : P.funcs[f]? = some fn) {c : F} (hc : compF P fn = some c) {n : Nat} {B : Nat} {W w : World} {m : Mp} {H H' : Heap} (hr : Rel P B W w m H) {args : List Value} {args' : Array Value} (hv : VRs m args args'.toList) {v : Value}
    (hl : args.length = c.params.length) (he : f_out c (exC P call none c.d c.n n c.body (setPs .lf c.params args) [] H) = some (v, H')) :
    (∃ fn, P.funcs[f]? = some fn ∧ fn.body.isSome = true ∧ (fn.name == "runtime.NumGoroutine") = false) ∧ CallsIn Fence.wide 0 P f args' w fun e w' => ∃ v', e = .returned v' ∧ Ends P B W m H v H' v' w' := by
  unfold compF at hc
  split at hc
  case h_2 => cases hc
  rename_i body hb
  simp only at hc
  obtain ⟨h0, hc⟩ := cond_some hc
  simp only [Bool.and_eq_true, Nat.ble_eq] at h0
  obtain ⟨⟨h1, h2⟩, h3⟩ := h0
  split at hc
  case h_2 => cases hc
  rename_i cb rs hcb hrs
  cases hc
  simp only [List.length_map, List.length_range] at hl
  have h3' : (fn.name == "runtime.NumGoroutine") = false := by simpa using h3
  refine ⟨⟨fn, hf, by rw [hb]; rfl, h3'⟩, ?_⟩
  have hsz : args'.size = fn.params.size + fn.nfree := by have := hv.1; simp only [Array.length_toList] at this; omega
  have st : St P B W m H (depthOf 16 fn.ntmps) fn.ntmps (setPs .lf ((List.range (fn.params.size + fn.nfree)).map (pa (depthOf 16 fn.ntmps))) args) [] { tmps := args' ++ Array.replicate (fn.ntmps - args'.size) undef, defers := [] } w := by
    refine ⟨hr, ?_, .nil⟩
    have := sound_setPs (tr_empty m h1) (ps := List.range (fn.params.size + fn.nfree)) (fun p hp => by have := List.mem_range.1 hp; omega) hv (by simpa using hl)
    rw [← hsz, first_tmps (by omega), hsz] at this
    simpa [hsz] using this
  unfold f_out at he
  split at he
  · cases he
  · rename_i e T' D' H1 hne hex
    split at he
    · rename_i H2 hmk
      split at he
      · rename_i vs hvs
        cases he
        refine callsIn_of_wp_marks hf hb trivial (wpIn_mono (sound_C T hd n body hcb hex rfl st) ?_)
        rintro x a1 w1 ⟨rfl, m1, s1, e1⟩
        have fin : LeavesInM Fence.wide 0 P fn a1.tmps (fun e w' => ∃ v', e = .returned v' ∧ Ends P B W m H (resV vs) H' v' w') a1.defers .returning w1 := by
          refine sound_marks (fun w2 r2 => ?_) s1.dr hmk s1.rel
          obtain ⟨vs', e3, e4⟩ := sound_rvs r2 s1.tr hrs hvs
          refine ⟨_, ?_, _, rfl, m1, resV_rel e4, r2, e1.sub, e1.keep, by rw [marks_next hmk]; exact e1.le⟩
          rw [results_eq, Array.mapM_eq_mapM_toList, Sem.run_bind, Sem.run_map, e3]
          rfl
        cases e with
        | normal => exact fin
        | ret => exact fin
        | exit id => exact (hne id rfl).elim
      · cases he
    · cases he
  · cases he

theorem sound_round {call : CallF} (T : Told P call) (hd : DrwOk P call) {n : Nat} {B : Nat} {W w : World} {m : Mp} {H H' : Heap} (hr : Rel P B W w m H) {args : List Value} {args' : Array Value} (hv : VRs m args args'.toList) {l : Nat} {i : Inf} (hm : m l = some i) {v : Value}
    (he : f_round P n call l args H = some (v, H')) : Upon P ((Instr.yield i.blk args').run P w) (Ends P B W m H v H') := by
  unfold f_round at he
  split at he
  case h_2 => cases he
  rename_i d nt Tl ps asg b s j hg
  obtain ⟨hlen, he⟩ := cond_some he
  rw [beq_iff, decide_eq_true_iff] at hlen
  obtain ⟨r, b1, b2, b3, b4, b5, b6, b7, b8, _⟩ := hr.loopSet hg hm
  subst b3
  have hsz : args'.size = r.params.size := by have := hv.1; simp only [Array.length_toList] at this; simp at hlen; omega
  have hrun : (Instr.yield i.blk args').run P w = .ok (.round i.blk r.fn ((r.params.zip args').foldl (fun tmps x => tmps.setIfInBounds x.1 x.2) r.tmps) r.assign r.body) w := by
    simp [Instr.yield, run_getLoop b1, hsz]
  rw [hrun]
  have st : St P B W m H d nt (setPs Tl (r.params.toList.map (pa d)) args) [] { tmps := (r.params.zip args').foldl (fun tmps x => tmps.setIfInBounds x.1 x.2) r.tmps, defers := [] } w := by
    refine ⟨hr, ?_, .nil⟩
    have := sound_setPs b2 b4 hv (by simpa using hlen)
    rw [← Array.foldl_toList, Array.toList_zip]
    exact this
  unfold f_body at he
  split at he
  case h_2 => cases he
  rename_i T1 H1 hex
  split at he
  case h_2 => cases he
  rename_i d2 n2 T2 ps2 asg2 bb2 j2 hg1
  unfold f_end at he
  split at he
  case h_2 => cases he
  rename_i e T3 H2 hex2
  split at he
  case h_2 => cases he
  rename_i d3 n3 T4 ps3 asg3 b3 s3 j3 hg2
  refine roundIn_of_wpIn trivial (wpIn_mono (sound_C T hd n r.assign b5 hex ⟨i, hm, rfl⟩ st) ?_)
  rintro x a1 w1 ⟨rfl, m1, s1, e1⟩
  have hm1 := e1.sub _ _ hm
  obtain ⟨r1, c1, c2, c3, c4, c5, c6, c7, c8, c9⟩ := s1.rel.loopSet hg1 hm1
  refine ⟨{ w1 with heap := w1.heap.setIfInBounds i.blk (.loop { r1 with state := .busy, pending := jumpOf j2 }) }, ?_, ?_⟩
  · have e0 : ({ r1 with state := .busy } : Loop) = { r1 with state := .busy, pending := jumpOf j2 } := by rw [← c8]
    simp [Instr.beginRound, run_getLoop c1, run_setLoop c1, e0, c7]
  · have st2 : St P B W m1 (H1.set l (some (.loop d2 n2 T2 ps2 asg2 bb2 .busy j2))) d nt T1 [] a1 { w1 with heap := w1.heap.setIfInBounds i.blk (.loop { r1 with state := .busy, pending := jumpOf j2 }) } :=
      ⟨c9 .busy j2, s1.tr, s1.dr⟩
    refine wpIn_mono (sound_C T hd n r.body b6 hex2 ⟨i, hm1, rfl⟩ st2) ?_
    rintro x a2 w2 ⟨rfl, m2, s2, e2⟩
    have hm2 := e2.sub _ _ hm1
    obtain ⟨r2, k1, k2, k3, k4, k5, k6, k7, k8, k9⟩ := s2.rel.loopSet hg2 hm2
    have ext : Ext m H m2 H2 := e1.trans ⟨e2.sub, e2.keep, by have := e2.le; rwa [Heap.next_set] at this⟩
    have fin : ∀ (s' : LoopState) (j' : Option Ex) (bv : Bool), (Value.bool bv, H2.set l (some (.loop d3 n3 T4 ps3 asg3 b3 s' j'))) = (v, H') →
        Ends P B W m H v H' (.bool bv) { w2 with heap := w2.heap.setIfInBounds i.blk (.loop { r2 with state := s', pending := jumpOf j' }) } := by
      intro s' j' bv e
      cases e
      exact ⟨m2, .bool bv, k9 s' j', ext.sub, ext.keep, by rw [Heap.next_set]; exact ext.le⟩
    cases e with
    | normal =>
      simp only [Option.some.injEq] at he
      exact ⟨.bool true, _, by simp [Instr.endRound, run_getLoop k1, run_setLoop k1]; rfl, .bool true, rfl, fin .ready none true he⟩
    | ret =>
      simp only [Option.some.injEq] at he
      exact ⟨.bool false, _, by simp [Instr.endRound, run_getLoop k1, run_setLoop k1]; rfl, .bool false, rfl, fin .done (some .ret) false he⟩
    | exit id =>
      simp only [Option.some.injEq] at he
      exact ⟨.bool false, _, by simp [Instr.endRound, run_getLoop k1, run_setLoop k1]; rfl, .bool false, rfl, fin .done (some (.exit id)) false he⟩

theorem told_none : Told P (fun _ _ _ => none) := by
  constructor
  · intro B W w m H H' f args args' v hr hv he
    cases he
  · intro B W w m H H' l i args args' v hr hv he hm
    cases he

/-- **What the evaluator says of a call is so.** -/
theorem told_exF {base : ExF} {fs : FuncId → Option F} (hfs : FsOk P fs) (hb : Told P base) (hd : ∀ call, Told P call → DrwOk P call) : ∀ n, Told P (exF P base fs n)
  | 0 => told_none
  | n + 1 => by
    have ih := told_exF hfs hb hd n
    have hdn : DrwOk P (exF P base fs n) := @hd _ ih
    constructor
    · intro B W w m H H' f args args' v hr hv he
      have he' : f_step P base fs n (exF P base fs n) (.f f) args H = some (v, H') := he
      unfold f_step at he'
      split at he'
      · rename_i r hr'
        cases he'
        exact hb.fn hr hv hr'
      · simp only [f_own, f_call] at he'
        split at he'
        · cases he'
        · rename_i c hc
          obtain ⟨fn, k1, k2⟩ := hfs f c hc
          obtain ⟨hl, he2⟩ := cond_some he'
          rw [beq_iff, decide_eq_true_iff] at hl
          exact sound_call ih hdn k1 k2 hr hv hl he2
    · intro B W w m H H' l i args args' v hr hv he hm
      have he' : f_step P base fs n (exF P base fs n) (.y l) args H = some (v, H') := he
      unfold f_step at he'
      split at he'
      · rename_i r hr'
        cases he'
        exact hb.yl hr hv hr' hm
      · exact sound_round ih hdn hr hv hm he'

end Go.Ev
