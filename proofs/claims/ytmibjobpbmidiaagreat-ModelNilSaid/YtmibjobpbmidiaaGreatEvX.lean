/-
  A machine-free evaluator for calls ('Go.Ev'): regions in order; code. Own work.
-/
import Derived.Test.YtmibjobpbmidiaaGreatEvW
import Derived.Sort.LoopGhostIn
namespace Go.Ev
set_option linter.unusedSimpArgs false
set_option linter.unusedVariables false
open Go Go.RowKit Go.MapKept
variable {P : Program}

/-- The marks of loops among the deferred calls. -/
inductive DR (m : Mp) : List Nat → List Deferred → Prop
  | nil : DR m [] []
  | cons {l : Nat} {i : Inf} {D : List Nat} {ds : List Deferred} : m l = some i → DR m D ds → DR m (l :: D) ({ target := .collected i.blk, args := #[] } :: ds)

theorem DR.mono {m m' : Mp} (s : Sub m m') {D : List Nat} {ds : List Deferred} (h : DR m D ds) : DR m' D ds := by
  induction h with
  | nil => exact .nil
  | cons a _ ih => exact .cons (s _ _ a) ih

/-- An activation and a world as the evaluator has them. -/
structure St (P : Program) (B : Nat) (W : World) (m : Mp) (H : Heap) (d n : Nat) (T : TT) (D : List Nat) (a : Act) (w : World) : Prop where
  rel : Rel P B W w m H
  tr : TR m d n T a.tmps
  dr : DR m D a.defers

def exOf : Ex → Exit
  | .normal => .normal
  | .exit id => .exit id
  | .ret => .ret

def Post (P : Program) (B : Nat) (W : World) (m : Mp) (H : Heap) (d n : Nat) (e : Ex) (T : TT) (D : List Nat) (H' : Heap) (x : Exit) (a : Act) (w : World) : Prop :=
  x = exOf e ∧ ∃ m', St P B W m' H' d n T D a w ∧ Ext m H m' H'

theorem Post.ext {B : Nat} {W : World} {m m0 : Mp} {H H0 : Heap} {d n : Nat} {e : Ex} {T : TT} {D : List Nat} {H' : Heap} {x : Exit} {a : Act} {w : World} (h : Post P B W m H d n e T D H' x a w) (k : Ext m0 H0 m H) : Post P B W m0 H0 d n e T D H' x a w := by
  obtain ⟨h1, m', h2, h3⟩ := h
  exact ⟨h1, m', h2, k.trans h3⟩

theorem put_rel {m : Mp} {d n : Nat} {T : TT} {a : Act} (h : TR m d n T a.tmps) {dst : Option Tmp} (hd : dstOk n dst = true) {v v' : Value} (hv : VR m v v') : TR m d n (putT T (dst.map (pa d)) v) (a.put dst v').tmps := by
  cases dst with
  | none => exact h
  | some t =>
    simp only [dstOk, blt_dec, decide_eq_true_eq] at hd
    exact h.set hd hv

theorem put_defers (a : Act) (dst : Option Tmp) (v : Value) : (a.put dst v).defers = a.defers := by cases dst <;> rfl

theorem ins_some {d n : Nat} {ops : Array Oper} {o : Oper} {i : Ins} (h : compIns P d n ops o = some i) :
    dstOk n o.dst = true ∧ o.op.operands.toList.all (inN n) = true ∧ i.dst = o.dst.map (pa d) ∧ i.k = compOp P d o ∧ guardOf d n ops o.guard = some i.guard := by
  unfold compIns at h
  obtain ⟨h1, h2⟩ := cond_some h
  rw [Bool.and_eq_true] at h1
  split at h2
  · rename_i g hg
    cases h2
    exact ⟨h1.1, h1.2, rfl, rfl, hg⟩
  · cases h2

theorem wanted_goes' {m : Mp} {d n : Nat} {T : TT} {a : Act} (hsz : a.tmps.size = n) {ops : Array Oper} {o : Oper} {g : Option (Pa × Bool)} (h : guardOf d n ops o.guard = some g) (ht : ∀ j w t, o.guard = some (j, w) → (ops[j]?).bind (·.dst) = some t → t < n → VR m (T.get (pa d t)) (a.tmps.getD t undef)) : Region.wanted o (yielded ops a.tmps) = goes T g := by
  unfold guardOf at h
  unfold Region.wanted
  split at h
  · rename_i hg
    cases h
    rw [hg]
    rfl
  · rename_i j w hg
    rw [hg]
    split at h
    · rename_i t htt
      obtain ⟨h1, h2⟩ := cond_some h
      cases h2
      simp only [blt_dec, decide_eq_true_eq] at h1
      have hv := ht j w t hg htt h1
      have hs : t < a.tmps.size := by rw [hsz]; exact h1
      have e : a.tmps[t]? = some (a.tmps.getD t undef) := by simp [Array.getD, hs]
      simp only [yielded, htt, Option.bind_some, e, goes]
      generalize a.tmps.getD t undef = x at hv
      generalize T.get (pa d t) = y at hv
      cases hv <;> simp
    · cases h

theorem wanted_goes {m : Mp} {d n : Nat} {T : TT} {a : Act} (ht : TR m d n T a.tmps) {ops : Array Oper} {o : Oper} {g : Option (Pa × Bool)} (h : guardOf d n ops o.guard = some g) : Region.wanted o (yielded ops a.tmps) = goes T g :=
  wanted_goes' ht.size h fun _ _ t _ _ hlt => ht.get t hlt

/-! ### Regions in order -/

theorem sound_reg {call : CallF} (T : Told P call) {F : Fence} (hF : Like F) {k d n : Nat} {ops : Array Oper} {B : Nat} {W : World} {D : List Nat} {Q : Exit → Act → World → Prop} : ∀ (l : List Oper) {is : List Ins}, compReg P d n ops l = some is → ∀ {Tt T' : TT} {H H' : Heap} {m : Mp} {a : Act} {w : World},
    exReg P call is Tt H = some (T', H') → St P B W m H d n Tt D a w → (∀ a' w', Post P B W m H d n .normal T' D H' .normal a' w' → Q .normal a' w') → wpListIn F k P ops Q l a w
  | [], is, hc, Tt, T', H, H', m, a, w, he, st, hQ => by
    cases hc
    cases he
    exact hQ _ _ ⟨rfl, m, st, Ext.refl m H⟩
  | o :: l, is, hc, Tt, T', H, H', m, a, w, he, st, hQ => by
    unfold compReg at hc
    split at hc
    · rename_i i r hi hl
      cases hc
      obtain ⟨c1, c2, c3, c4, c5⟩ := ins_some hi
      have hw := wanted_goes st.tr c5
      have he' : exReg1 P call i (exReg P call r) Tt H = some (T', H') := he
      unfold exReg1 at he'
      simp only [wpListIn, hw]
      cases hg : goes Tt i.guard with
      | false =>
        rw [hg, cond_false] at he'
        simp only [Bool.false_eq_true, if_false]
        refine ⟨fun f _ => hF.fn f, sound_reg T hF l hl he' ⟨st.rel, by rw [c3]; exact put_rel st.tr c1 (VR.undef m), by rw [put_defers]; exact st.dr⟩ hQ⟩
      | true =>
        rw [hg, cond_true] at he'
        simp only [if_true]
        refine ⟨fun f _ => hF.fn f, ?_⟩
        unfold r_put at he'
        split at he'
        · rename_i v H2 hex
          rw [c4] at hex
          refine upon_in hF (sound_ins T st.rel (looks_of st.tr c2) hex F.round) ?_
          rintro v' w' ⟨m', h1, h2, h3⟩
          exact sound_reg T hF l hl he' ⟨h2, by rw [c3]; exact put_rel (st.tr.mono h3.sub) c1 h1, by rw [put_defers]; exact st.dr.mono h3.sub⟩ fun a'' w'' hp => hQ _ _ (hp.ext h3)
        · cases he'
    · cases hc

/-- What is asked of the regions whose order is drawn. -/
def DrwOk (P : Program) (call : CallF) : Prop :=
  ∀ {d nt id : Nat} {ops : Array Oper} {l : List DIns}, compC P d nt (.region id ops true) = some (.drw l) → ∀ {Tt T' : TT} {H H' : Heap}, exDrw P call l Tt H [] [] = some (T', H') →
    ∀ {B : Nat} {W w : World} {m : Mp} {a : Act} {F : Fence} {k : Nat} {D : List Nat}, Like F → St P B W m H d nt Tt D a w → (Code.region id ops true).wpIn F k P (Post P B W m H d nt .normal T' D H') a w

/-! ### Code -/

/-- The frame: of a function's activation, or of a round of loop l. -/
def Around (m : Mp) (rd : Option Nat) (F : Fence) : Prop :=
  match rd with
  | none => F = Fence.wide
  | some l => ∃ i, m l = some i ∧ F = Fence.wide.inRound i.blk

theorem Around.mono {m m' : Mp} (s : Sub m m') {rd : Option Nat} {F : Fence} (h : Around m rd F) : Around m' rd F := by
  cases rd with
  | none => exact h
  | some l => obtain ⟨i, h1, h2⟩ := h; exact ⟨i, s _ _ h1, h2⟩
theorem Around.like {m : Mp} {rd : Option Nat} {F : Fence} (h : Around m rd F) : Like F := by
  cases rd with
  | none => exact .inl h
  | some l => obtain ⟨i, h1, h2⟩ := h; exact .inr ⟨_, h2⟩

theorem run_newObj {o : Obj} {w : World} : (newObj o).run P w = .ok w.heap.size (w.alloc o) := by simp [newObj, Sem.run]

theorem run_getLoop {w : World} {l : Nat} {r : Loop} (h : w.heap[l]? = some (.loop r)) : (Instr.getLoop l).run P w = .ok r w := by
  simp [Instr.getLoop, getObj, Sem.run, h]

theorem Rel.none_next {B : Nat} {W w : World} {m : Mp} {H : Heap} (hr : Rel P B W w m H) : m H.next = none := by
  cases e : m H.next with
  | none => rfl
  | some j => have := (hr.fresh _ _ e).1; omega

/-- A block more, on both sides. -/
theorem Rel.add {B : Nat} {W w : World} {m : Mp} {H : Heap} (hr : Rel P B W w m H) (ob : Obj) (o : AObj) (hl : H.next < LIM) (hrw : o.rw = true) (i : Inf) (hi : i.blk = w.heap.size) (ho : ORel P (put m H.next i) (w.alloc ob) i o) :
    Rel P B W (w.alloc ob) (put m H.next i) (H.new o) ∧ Ext m H (put m H.next i) (H.new o) :=
  ⟨hr.new ob o i hr.none_next (by rw [Heap.next_new]; omega) (by rw [Heap.next_new]; omega) (by rw [Heap.next_new]; exact hl) (Heap.ok_new hr.ok o) (fun _ hk => Heap.get_new hr.ok hl hk) hi hrw ho,
   ⟨Sub.put hr.none_next, fun id hlt => put_other (by omega), by rw [Heap.next_new]; omega⟩⟩

/-- Laying a loop's record. -/
theorem sound_enter {B : Nat} {W w : World} {m : Mp} {H H1 : Heap} {d nt : Nat} {Tt : TT} {D D1 : List Nat} {a : Act} (st : St P B W m H d nt Tt D a w) {rd : Option Nat} {F : Fence} (ha : Around m rd F) (hm : o_mark rd D H = some (D1, H1)) (hl : H1.next < LIM)
    {ps : Array Tmp} (hp : ∀ p ∈ ps.toList, p < nt) {asg body : Code} {ca cb : C} (h1 : compC P d nt asg = some ca) (h2 : compC P d nt body = some cb) (fn : FuncId) :
    ∃ (mark : List Deferred) (w1 : World) (m1 : Mp) (i : Inf), (Instr.enterLoop fn a.tmps ps asg body F.round).run P w = .ok (i.blk, mark) w1 ∧ m1 H1.next = some i ∧
      St P B W m1 (H1.new (.loop d nt Tt (ps.toList.map (pa d)) ca cb .ready none)) d nt Tt D1 { a with defers := mark ++ a.defers } w1 ∧ Ext m H m1 (H1.new (.loop d nt Tt (ps.toList.map (pa d)) ca cb .ready none)) := by
  have main : ∀ (dd : Nat) (mark : List Deferred) (w0 : World) (m0 : Mp), St P B W m0 H1 d nt Tt D1 { a with defers := mark ++ a.defers } w0 → Ext m H m0 H1 →
      ((Instr.enterLoop fn a.tmps ps asg body F.round).run P w = .ok (w0.heap.size, mark) (w0.alloc (.loop { state := .ready, pending := none, fn, tmps := a.tmps, params := ps, assign := asg, body, defers := dd }))) →
      ∃ (mark : List Deferred) (w1 : World) (m1 : Mp) (i : Inf), (Instr.enterLoop fn a.tmps ps asg body F.round).run P w = .ok (i.blk, mark) w1 ∧ m1 H1.next = some i ∧
        St P B W m1 (H1.new (.loop d nt Tt (ps.toList.map (pa d)) ca cb .ready none)) d nt Tt D1 { a with defers := mark ++ a.defers } w1 ∧ Ext m H m1 (H1.new (.loop d nt Tt (ps.toList.map (pa d)) ca cb .ready none)) := by
    intro dd mark w0 m0 s0 e0 hrun
    have hs : Sub m0 (put m0 H1.next ⟨w0.heap.size, 0, 0, 0⟩) := Sub.put s0.rel.none_next
    obtain ⟨r1, e1⟩ := s0.rel.add (.loop { state := .ready, pending := none, fn, tmps := a.tmps, params := ps, assign := asg, body, defers := dd }) (.loop d nt Tt (ps.toList.map (pa d)) ca cb .ready none) hl rfl ⟨w0.heap.size, 0, 0, 0⟩ rfl
      ⟨_, heap_alloc_new w0 _, s0.tr.mono hs, rfl, hp, h1, h2, rfl, rfl⟩
    exact ⟨mark, _, _, ⟨w0.heap.size, 0, 0, 0⟩, hrun, put_same _ _ _, ⟨r1, s0.tr.mono hs, s0.dr.mono hs⟩, e0.trans e1⟩
  unfold o_mark at hm
  cases rd with
  | none =>
    obtain ⟨hl0, hm⟩ := cond_some hm
    cases hm
    simp only [blt_dec, decide_eq_true_eq] at hl0
    have hF : F.round = none := by rw [show F = Fence.wide from ha]; rfl
    have hs : Sub m (put m H.next ⟨w.heap.size, 0, 0, 0⟩) := Sub.put st.rel.none_next
    obtain ⟨r1, e1⟩ := st.rel.add (.deferred (some [])) .dfr hl0 rfl ⟨w.heap.size, 0, 0, 0⟩ rfl (heap_alloc_new w _)
    refine main w.heap.size [{ target := .collected w.heap.size, args := #[] }] (w.alloc (.deferred (some []))) _ ⟨r1, st.tr.mono hs, DR.cons (put_same m H.next ⟨w.heap.size, 0, 0, 0⟩) (st.dr.mono hs)⟩ e1 ?_
    simp [Instr.enterLoop, hF, run_newObj]
  | some l =>
    obtain ⟨i, hi, hF⟩ := ha
    simp only at hm
    split at hm
    · rename_i hg
      simp only [Option.some.injEq, Prod.mk.injEq] at hm
      obtain ⟨rfl, rfl⟩ := hm
      obtain ⟨r, hb, _⟩ := st.rel.obj l _ i hg hi
      refine main r.defers [] w m st (Ext.refl m H) ?_
      simp [Instr.enterLoop, hF, run_newObj, run_getLoop hb]
    · cases hm

end Go.Ev
