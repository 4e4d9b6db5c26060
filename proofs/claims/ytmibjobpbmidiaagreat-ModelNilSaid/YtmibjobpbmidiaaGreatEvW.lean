/-
  A machine-free evaluator for calls ('Go.Ev'): what is told of calls; instructions. Own work.
-/
import Derived.Test.YtmibjobpbmidiaaGreatEvV
import Derived.TacticsIn
namespace Go.Ev
set_option linter.unusedSimpArgs false
set_option linter.unusedVariables false
open Go Go.RowKit Go.MapKept
variable {P : Program}

/-- What was stays. -/
structure Ext (m : Mp) (H : Heap) (m' : Mp) (H' : Heap) : Prop where
  sub : Sub m m'
  keep : ∀ id, id < H.next → m' id = m id
  le : H.next ≤ H'.next

theorem Ext.refl (m : Mp) (H : Heap) : Ext m H m H := ⟨Sub.refl m, fun _ _ => rfl, Nat.le_refl _⟩
theorem Ext.trans {m m' m'' : Mp} {H H' H'' : Heap} (h : Ext m H m' H') (k : Ext m' H' m'' H'') : Ext m H m'' H'' :=
  ⟨h.sub.trans k.sub, fun id hid => by rw [k.keep id (Nat.lt_of_lt_of_le hid h.le), h.keep id hid], Nat.le_trans h.le k.le⟩
theorem Ext.of_next {m : Mp} {H H' : Heap} (h : H'.next = H.next) : Ext m H m H' := ⟨Sub.refl m, fun _ _ => rfl, Nat.le_of_eq h.symm⟩

/-- How a call has ended: what it hands back, and the world. -/
def Ends (P : Program) (B : Nat) (W : World) (m : Mp) (H : Heap) (v : Value) (H' : Heap) (v' : Value) (w' : World) : Prop :=
  ∃ m', VR m' v v' ∧ Rel P B W w' m' H' ∧ Ext m H m' H'

/-- What the machine goes on with comes to R. -/
def Upon (P : Program) (r : Result Next) (R : Value → World → Prop) : Prop :=
  match r with
  | .ok (.value v) w' => R v w'
  | .ok .skip w' => R undef w'
  | .ok (.enter f args) w' => CallsIn Fence.wide 0 P f args w' fun e w'' => ∃ v, e = .returned v ∧ R v w''
  | .ok (.round l f tmps asg body) w' => RoundIn Fence.wide 0 P l f tmps asg body w' fun e w'' => ∃ v, e = .returned v ∧ R v w''
  | _ => False

/-- What an oracle for calls tells is so. -/
structure Told (P : Program) (call : CallF) : Prop where
  fn : ∀ {B : Nat} {W w : World} {m : Mp} {H H' : Heap} {f : FuncId} {args : List Value} {args' : Array Value} {v : Value}, Rel P B W w m H → VRs m args args'.toList → call (.f f) args H = some (v, H') →
    (∃ fn, P.funcs[f]? = some fn ∧ fn.body.isSome = true ∧ (fn.name == "runtime.NumGoroutine") = false) ∧ CallsIn Fence.wide 0 P f args' w fun e w' => ∃ v', e = .returned v' ∧ Ends P B W m H v H' v' w'
  yl : ∀ {B : Nat} {W w : World} {m : Mp} {H H' : Heap} {l : Nat} {i : Inf} {args : List Value} {args' : Array Value} {v : Value}, Rel P B W w m H → VRs m args args'.toList → call (.y l) args H = some (v, H') → m l = some i →
    Upon P ((Instr.yield i.blk args').run P w) (Ends P B W m H v H')

/-- The wide fence, of functions' activations or of a round's. -/
def Like (F : Fence) : Prop := F = Fence.wide ∨ ∃ l, F = Fence.wide.inRound l

theorem Like.fn {F : Fence} (h : Like F) (f : FuncId) : F.fn f := by rcases h with rfl | ⟨l, rfl⟩ <;> trivial
theorem Like.depth {F : Fence} (h : Like F) {n : Nat} : F.depth.isSome = true → 1 ≤ n := by rcases h with rfl | ⟨l, rfl⟩ <;> intro h <;> cases h
theorem callsIn_like {F : Fence} (h : Like F) {n k : Nat} {f : FuncId} {args : Array Value} {w : World} {R : Ending → World → Prop} (hc : CallsIn Fence.wide k P f args w R) : CallsIn F n P f args w R := by
  rcases h with rfl | ⟨l, rfl⟩
  · exact callsIn_wide.2 (callsIn_wide.1 hc)
  · exact (callsIn_wide (n := n)).2 (callsIn_wide.1 hc)
theorem roundIn_like {F : Fence} (h : Like F) {n k l : Nat} {f : FuncId} {tmps : Array Value} {asg body : Code} {w : World} {R : Ending → World → Prop} (hc : RoundIn Fence.wide k P l f tmps asg body w R) : RoundIn F n P l f tmps asg body w R := by
  rcases h with rfl | ⟨l, rfl⟩
  · exact ⟨trivial, fun c cs _ => hc.2 c cs (room_wide _)⟩
  · exact ⟨trivial, fun c cs _ => hc.2 c cs (room_wide _)⟩

theorem upon_in {F : Fence} (hF : Like F) {n : Nat} {o : Oper} {a : Act} {next : Act → World → Prop} {Q : Exit → Act → World → Prop} {r : Result Next} {R : Value → World → Prop} (h : Upon P r R) (hk : ∀ v w', R v w' → next (a.put o.dst v) w') :
    o.uponIn F n P a next Q r := by
  unfold Upon at h
  split at h
  · exact hk _ _ h
  · exact hk _ _ h
  · refine ⟨hF.depth, CallsIn.mono (callsIn_like hF h) ?_⟩
    rintro e w'' ⟨v, rfl, hR⟩
    exact hk _ _ hR
  · refine ⟨hF.depth, RoundIn.mono (roundIn_like hF h) ?_⟩
    rintro e w'' ⟨v, rfl, hR⟩
    exact hk _ _ hR
  · exact h.elim

theorem comp_some {d : Nat} {o : Oper} {k : K} (h : compOp P d o = k) (hk : k ≠ .bad) : compOp0 P d o = some k := by
  unfold compOp at h
  split at h
  · rename_i k' hk'
    rw [hk', h]
  · exact absurd h.symm hk

theorem comp_opd {d : Nat} {o : Oper} {k : K} (h : compOp0 P d o = some k) : o.op.operands.toList.all opdOk = true := by
  unfold compOp0 at h
  exact (cond_some h).1

theorem av_rel {m : Mp} {d n : Nat} {T : TT} {a : Act} (ht : TR m d n T a.tmps) {x : Operand} (h1 : opdOk x = true) (h2 : inN n x = true) : VR m (av T (od d x)) (a.eval x) := by
  cases x with
  | tmp t =>
    simp only [inN, blt_dec, decide_eq_true_eq] at h2
    exact ht.get t h2
  | const v => exact VR.refl_flat h1
  | global g => cases h1
  | func f => exact .fn f #[] #[] #[] #[] rfl rfl (fun _ => VR.undef m) (fun _ => VR.undef m)

theorem ops_rel {m : Mp} {d n : Nat} {T : TT} {a : Act} (ht : TR m d n T a.tmps) {o : Op} (h1 : o.operands.toList.all opdOk = true) (h2 : o.operands.toList.all (inN n) = true) : OpsR m d o (av T) a.eval :=
  fun x hx => av_rel ht (List.all_eq_true.1 h1 x hx) (List.all_eq_true.1 h2 x hx)

theorem av_rel' {m : Mp} {d : Nat} {T : TT} {a : Act} {x : Operand} (h1 : opdOk x = true) (ht : ∀ t, x = .tmp t → VR m (T.get (pa d t)) (a.eval (.tmp t))) : VR m (av T (od d x)) (a.eval x) := by
  cases x with
  | tmp t => exact ht t rfl
  | const v => exact VR.refl_flat h1
  | global g => cases h1
  | func f => exact .fn f #[] #[] #[] #[] rfl rfl (fun _ => VR.undef m) (fun _ => VR.undef m)

/-- The temporaries that an operation names. -/
def LooksR (m : Mp) (d : Nat) (T : TT) (a : Act) (o : Op) : Prop := ∀ x ∈ o.operands.toList, ∀ t, x = .tmp t → VR m (T.get (pa d t)) (a.eval (.tmp t))

theorem ops_rel' {m : Mp} {d : Nat} {T : TT} {a : Act} {o : Op} (ht : LooksR m d T a o) (h1 : o.operands.toList.all opdOk = true) : OpsR m d o (av T) a.eval :=
  fun x hx => av_rel' (List.all_eq_true.1 h1 x hx) (ht x hx)

theorem looks_of {m : Mp} {d n : Nat} {T : TT} {a : Act} (ht : TR m d n T a.tmps) {o : Op} (h2 : o.operands.toList.all (inN n) = true) : LooksR m d T a o := by
  intro x hx t e
  subst e
  have := List.all_eq_true.1 h2 _ hx
  simp only [inN, blt_dec, decide_eq_true_eq] at this
  exact ht.get t this

theorem comp_call {d : Nat} {o : Oper} {f : FuncId} {l : List Od} (hc : compOp0 P d o = some (.call f l)) : ∃ args ts, o.op = .call ⟨.value (.func f), args, ts⟩ ∧ l = args.toList.map (od d) := by
  obtain ⟨dst, op, ty, pos, after, g⟩ := o
  unfold compOp0 at hc
  replace hc := (cond_some hc).2
  cases op with
  | call c =>
    obtain ⟨callee, args, argTypes⟩ := c
    cases callee with
    | builtin b =>
      exfalso
      cases b <;> simp only [] at hc <;> (try (repeat' (split at hc))) <;> first | exact absurd hc (by simp) | exact absurd (cond_some hc).2 (by simp)
    | value f' =>
      cases f' with
      | func f' =>
        simp only [] at hc
        split at hc
        · replace hc := (cond_some hc).2
          cases hc
          exact ⟨_, _, rfl, rfl⟩
        · cases hc
      | _ => exact absurd hc (by simp)
    | invoke r n => cases hc
  | load t x =>
    exfalso
    simp only [] at hc
    split at hc
    · rename_i ag s hag hs
      cases ag <;> exact absurd hc (by simp)
    · cases hc
  | build t parts =>
    exfalso
    simp only [] at hc
    repeat' (split at hc)
    all_goals exact absurd hc (by simp)
  | binOp bop t x y yt =>
    exfalso
    cases bop <;> simp only [] at hc <;> split at hc <;> exact absurd hc (by simp)
  | convert src dt x =>
    exfalso
    simp only [] at hc
    repeat' (split at hc)
    all_goals exact absurd hc (by simp)
  | makeInterface t x =>
    exfalso
    simp only [] at hc
    repeat' (split at hc)
    all_goals exact absurd hc (by simp)
  | makeFunc fn a b => cases fn <;> exact absurd hc (by simp)
  | slice t x lo hi mx =>
    exfalso
    simp only [] at hc
    repeat' (split at hc)
    all_goals exact absurd hc (by simp)
  | fieldAddr s x f =>
    exfalso
    simp only [] at hc
    repeat' (split at hc)
    all_goals exact absurd hc (by simp)
  | field t x f =>
    exfalso
    simp only [] at hc
    split at hc
    · split at hc
      · split at hc
        · rename_i ag s hag hs
          cases ag <;> exact absurd hc (by simp)
        · cases hc
      · cases hc
    · cases hc
  | indexAddr t x i =>
    exfalso
    simp only [] at hc
    repeat' (split at hc)
    all_goals exact absurd hc (by simp)
  | index t x i =>
    exfalso
    simp only [] at hc
    split at hc <;> exact absurd hc (by simp)
  | lookup t x i ok =>
    exfalso
    simp only [] at hc
    repeat' (split at hc)
    all_goals exact absurd hc (by simp)
  | alloc t =>
    exfalso
    simp only [] at hc
    split at hc <;> cases hc
  | buildSlice t n ps =>
    exfalso
    simp only [] at hc
    split at hc
    · split at hc
      · replace hc := (cond_some hc).2; cases hc
      · cases hc
    · cases hc
  | makeSlice t l c =>
    exfalso
    simp only [] at hc
    split at hc
    · split at hc
      · replace hc := (cond_some hc).2; cases hc
      · cases hc
    · cases hc
  | makeMap t r => cases r <;> cases hc
  | store t a x =>
    exfalso
    simp only [] at hc
    split at hc <;> exact absurd hc (by simp)
  | mapUpdate t mm k x =>
    exfalso
    simp only [] at hc
    repeat' (split at hc)
    all_goals exact absurd hc (by simp)
  | _ => cases hc

theorem comp_callv {d : Nat} {o : Oper} {x : Od} {l : List Od} (hc : compOp0 P d o = some (.callv x l)) : ∃ t args ts, o.op = .call ⟨.value (.tmp t), args, ts⟩ ∧ x = .t (pa d t) ∧ l = args.toList.map (od d) := by
  obtain ⟨dst, op, ty, pos, after, g⟩ := o
  unfold compOp0 at hc
  replace hc := (cond_some hc).2
  cases op with
  | call c =>
    obtain ⟨callee, args, argTypes⟩ := c
    cases callee with
    | builtin b =>
      exfalso
      cases b <;> simp only [] at hc <;> (try (repeat' (split at hc))) <;> first | exact absurd hc (by simp) | exact absurd (cond_some hc).2 (by simp)
    | value f' =>
      cases f' with
      | func f' =>
        exfalso
        simp only [] at hc
        split at hc
        · exact absurd (cond_some hc).2 (by simp)
        · cases hc
      | tmp t =>
        cases hc
        exact ⟨_, _, _, rfl, rfl, rfl⟩
      | _ => exact absurd hc (by simp)
    | invoke r n => cases hc
  | load t x =>
    exfalso
    simp only [] at hc
    split at hc
    · rename_i ag s hag hs
      cases ag <;> exact absurd hc (by simp)
    · cases hc
  | build t parts =>
    exfalso
    simp only [] at hc
    repeat' (split at hc)
    all_goals exact absurd hc (by simp)
  | binOp bop t x y yt =>
    exfalso
    cases bop <;> simp only [] at hc <;> split at hc <;> exact absurd hc (by simp)
  | convert src dt x =>
    exfalso
    simp only [] at hc
    repeat' (split at hc)
    all_goals exact absurd hc (by simp)
  | makeInterface t x =>
    exfalso
    simp only [] at hc
    repeat' (split at hc)
    all_goals exact absurd hc (by simp)
  | makeFunc fn a b => cases fn <;> exact absurd hc (by simp)
  | slice t x lo hi mx =>
    exfalso
    simp only [] at hc
    repeat' (split at hc)
    all_goals exact absurd hc (by simp)
  | fieldAddr s x f =>
    exfalso
    simp only [] at hc
    repeat' (split at hc)
    all_goals exact absurd hc (by simp)
  | field t x f =>
    exfalso
    simp only [] at hc
    split at hc
    · split at hc
      · split at hc
        · rename_i ag s hag hs
          cases ag <;> exact absurd hc (by simp)
        · cases hc
      · cases hc
    · cases hc
  | indexAddr t x i =>
    exfalso
    simp only [] at hc
    repeat' (split at hc)
    all_goals exact absurd hc (by simp)
  | index t x i =>
    exfalso
    simp only [] at hc
    split at hc <;> exact absurd hc (by simp)
  | lookup t x i ok =>
    exfalso
    simp only [] at hc
    repeat' (split at hc)
    all_goals exact absurd hc (by simp)
  | alloc t =>
    exfalso
    simp only [] at hc
    split at hc <;> cases hc
  | buildSlice t n ps =>
    exfalso
    simp only [] at hc
    split at hc
    · split at hc
      · replace hc := (cond_some hc).2; cases hc
      · cases hc
    · cases hc
  | makeSlice t l c =>
    exfalso
    simp only [] at hc
    split at hc
    · split at hc
      · replace hc := (cond_some hc).2; cases hc
      · cases hc
    · cases hc
  | makeMap t r => cases r <;> cases hc
  | store t a x =>
    exfalso
    simp only [] at hc
    split at hc <;> exact absurd hc (by simp)
  | mapUpdate t mm k x =>
    exfalso
    simp only [] at hc
    repeat' (split at hc)
    all_goals exact absurd hc (by simp)
  | _ => cases hc

theorem comp_nodefer {d : Nat} {o : Oper} {k : K} (hc : compOp0 P d o = some k) (rd : Option Nat) (ρ : Operand → Value) : o.semAt rd ρ = execOp ρ o := by
  have : ∀ c, o.op ≠ .defer c := by
    intro c e
    obtain ⟨dst, op, ty, pos, after, g⟩ := o
    cases e
    unfold compOp0 at hc
    exact absurd (cond_some hc).2 (by simp)
  cases rd with
  | none => exact Oper.semAt_none ρ o
  | some l => exact Oper.semAt_some l ρ o this

theorem run_callFunc {f : FuncId} {args : Array Value} {w : World} {fn : Func} (h1 : P.funcs[f]? = some fn) (h2 : fn.body.isSome = true) (h3 : (fn.name == "runtime.NumGoroutine") = false) : (callFunc f args).run P w = .ok (.enter f args) w := by
  have h4 : ¬ (fn.body = none) := fun e => by rw [e] at h2; cases h2
  have h5 : ¬ (fn.name = "runtime.NumGoroutine") := fun e => by rw [e] at h3; simp at h3
  simp [callFunc, h1, h4, h5]

theorem sound_ins {call : CallF} (T : Told P call) {B : Nat} {W w : World} {m : Mp} {H H' : Heap} (hr : Rel P B W w m H) {d : Nat} {o : Oper} {Tt : TT} {a : Act} (ht : LooksR m d Tt a o.op) {v : Value}
    (he : exIns P call Tt H (compOp P d o) = some (v, H')) (rd : Option Nat) : Upon P ((o.semAt rd a.eval).run P w) (Ends P B W m H v H') := by
  cases hk : compOp P d o with
  | bad => rw [hk] at he; cases he
  | a k =>
    have hc := comp_some hk (by simp)
    have hops := ops_rel' ht (comp_opd hc)
    rw [hk] at he
    simp only [exIns, i_a] at he
    split at he
    · rename_i ob avv hex
      obtain ⟨hl, he2⟩ := cond_some he
      cases he2
      simp only [blt_dec, decide_eq_true_eq] at hl
      obtain ⟨⟨obj, i, v', h1, h2, h3⟩, hrw⟩ := sound_a hc hops hex w
      have hid : m H.next = none := by
        cases e : m H.next with
        | none => rfl
        | some j => have := (hr.fresh _ _ e).1; omega
      obtain ⟨h4, h5⟩ := h3 H.next hid
      rw [comp_nodefer hc, h1]
      refine ⟨put m H.next i, h5, ?_, Sub.put hid, fun id hlt => put_other (by omega), by rw [Heap.next_new]; omega⟩
      exact hr.new obj ob i hid (by rw [Heap.next_new]; omega) (by rw [Heap.next_new]; omega) (by rw [Heap.next_new]; exact hl) (Heap.ok_new hr.ok ob) (fun k' hk' => Heap.get_new hr.ok hl hk') h2 hrw h4
    · cases he
  | q k =>
    have hc := comp_some hk (by simp)
    have hops := ops_rel' ht (comp_opd hc)
    rw [hk] at he
    simp only [exIns, i_q] at he
    split at he
    · rename_i v0 hex
      cases he
      obtain ⟨v', h1, h2⟩ := sound_q hr hc hops hex
      rw [comp_nodefer hc, h1]
      exact ⟨m, h2, hr, Ext.refl m H⟩
    · cases he
  | w k =>
    have hc := comp_some hk (by simp)
    have hops := ops_rel' ht (comp_opd hc)
    rw [hk] at he
    obtain ⟨m', w', r, v', h1, h2, h3, h4, h5, h6, h7⟩ := sound_w hr hc hops he
    rw [comp_nodefer hc, h1]
    rcases h2 with rfl | ⟨rfl, rfl⟩
    · exact ⟨m', h3, h4, h5, h6, h7⟩
    · exact ⟨m', h3, h4, h5, h6, h7⟩
  | call f l =>
    have hc := comp_some hk (by simp)
    have hops := ops_rel' ht (comp_opd hc)
    obtain ⟨args, ts, ho, rfl⟩ := comp_call hc
    rw [hk] at he
    have hv : VRs m ((args.toList.map (od d)).map (av Tt)) (args.map a.eval).toList := by
      rw [Array.toList_map]
      exact VRs.of_map fun x hx => hops x (by rw [ho]; simp [Op.operands, Call.operands]; exact .inr (by simpa using hx))
    obtain ⟨⟨fn, h1, h2, h3⟩, h4⟩ := T.fn hr hv he
    rw [comp_nodefer hc]
    have hrun : (execOp a.eval o).run P w = .ok (.enter f (args.map a.eval)) w := by
      simp [execOp, ho, resolve, Deferred.ofValue, Act.eval, invoke, run_callFunc h1 h2 h3]
    rw [hrun]
    exact h4
  | callv x l =>
    have hc := comp_some hk (by simp)
    have hops := ops_rel' ht (comp_opd hc)
    obtain ⟨t, args, ts, ho, rfl, rfl⟩ := comp_callv hc
    rw [hk] at he
    have hv : VRs m ((args.toList.map (od d)).map (av Tt)) (args.map a.eval).toList := by
      rw [Array.toList_map]
      exact VRs.of_map fun x hx => hops x (by rw [ho]; simp [Op.operands, Call.operands]; exact .inr (by simpa using hx))
    have hf : VR m (av Tt (.t (pa d t))) (a.eval (.tmp t)) := hops (.tmp t) (by rw [ho]; simp [Op.operands, Call.operands])
    rw [comp_nodefer hc]
    simp only [exIns, i_callv] at he
    split at he
    · rename_i f A Bc hfv
      rw [hfv] at hf
      cases hfe : a.eval (.tmp t) with
      | func fv c dd =>
        rw [hfe] at hf
        cases hf with
        | fn _ _ _ _ _ e1 e2 e3 e4 =>
          have hA : VRs m A.toList c.toList := ⟨by simpa using e1, fun j => by have := e3 j; simpa [Array.getD_eq_getD_getElem?, List.getD_eq_getElem?_getD] using this⟩
          have hB : VRs m Bc.toList dd.toList := ⟨by simpa using e2, fun j => by have := e4 j; simpa [Array.getD_eq_getD_getElem?, List.getD_eq_getElem?_getD] using this⟩
          have hall : VRs m (A.toList ++ (args.toList.map (od d)).map (av Tt) ++ Bc.toList) ((c ++ args.map a.eval ++ dd).toList) := by
            rw [Array.toList_append, Array.toList_append]
            exact (hA.append hv).append hB
          obtain ⟨⟨fn, h1, h2, h3⟩, h4⟩ := T.fn hr hall he
          have hrun : (execOp a.eval o).run P w = .ok (.enter f (c ++ args.map a.eval ++ dd)) w := by
            simp [execOp, ho, resolve, Deferred.ofValue, hfe, invoke, run_callFunc h1 h2 h3]
          rw [hrun]
          exact h4
      | _ => rw [hfe] at hf; cases hf
    · rename_i l A Bc hfv
      rw [hfv] at hf
      cases hfe : a.eval (.tmp t) with
      | func fv c dd =>
        rw [hfe] at hf
        cases hf with
        | yld hm =>
          rename_i i
          have h4 := T.yl hr hv he hm
          have hrun : (execOp a.eval o).run P w = (Instr.yield i.blk (args.map a.eval)).run P w := by
            simp [execOp, ho, resolve, Deferred.ofValue, hfe, invoke]
          rw [hrun]
          exact h4
      | _ => rw [hfe] at hf; cases hf
    · cases he

end Go.Ev
