/-
  A machine-free evaluator for calls ('Go.Ev'): the machine's operations, by their kinds. Own work.
-/
import Derived.Test.YtmibjobpbmidiaaGreatEvS
namespace Go.Ev
set_option linter.unusedSimpArgs false
set_option linter.unusedVariables false
open Go Go.RowKit Go.MapKept
variable {P : Program}

theorem VR.bool_eq {m : Mp} {b : Bool} {v : Value} (h : VR m (.bool b) v) : v = .bool b := by cases h; rfl

theorem exec_v {s : Sem Value} {w w' : World} {v : Value} (h : s.run P w = .ok v w') : (do pure (Next.value (← s)) : Sem Next).run P w = .ok (.value v) w' := by simp [h]

theorem isN_opt {m : Mp} {d : Nat} {ρ : Od → Value} {ρ' : Operand → Value} : ∀ {x : Option Operand} {n : Option Nat}, (∀ y, x = some y → VR m (ρ (od d y)) (ρ' y)) → optNat ρ (x.map (od d)) = some n → IsN (x.map ρ') n
  | none, n, _, h => by simp [optNat] at h; subst h; trivial
  | some y, n, hv, h => by
    simp only [Option.map_some, optNat] at h
    cases hn : natOf (ρ (od d y)) with
    | none => simp [hn] at h
    | some k =>
      simp only [hn, Option.map_some, Option.some.injEq] at h
      subst h
      obtain ⟨kk, e⟩ := natOf_some hn
      have := hv y rfl
      rw [e] at this
      exact ⟨kk, this.int_eq⟩

theorem VRs.of_map {m : Mp} {d : Nat} {ρ : Od → Value} {ρ' : Operand → Value} : ∀ {l : List Operand}, (∀ x ∈ l, VR m (ρ (od d x)) (ρ' x)) → VRs m ((l.map (od d)).map ρ) (l.map ρ')
  | [], _ => VRs.nil m
  | x :: l, h => VRs.cons (h x (by simp)) (VRs.of_map fun y hy => h y (by simp [hy]))

set_option maxHeartbeats 1000000 in
theorem sound_q {B : Nat} {W w : World} {m : Mp} {H : Heap} (hr : Rel P B W w m H) {d : Nat} {o : Oper} {q : KQ} (hc : compOp0 P d o = some (.q q)) {ρ : Od → Value} {ρ' : Operand → Value} (hops : OpsR m d o.op ρ ρ')
    {v : Value} (he : exQ P ρ H q = some v) : ∃ v', (execOp ρ' o).run P w = .ok (.value v') w ∧ VR m v v' := by
  have flat : ∀ ty, q = .flat d o.op ty → ty = o.type → (∀ cs b, o.op ≠ .select cs b) → ∃ v', (execOp ρ' o).run P w = .ok (.value v') w ∧ VR m v v' := fun ty e1 e2 hs => by
    subst e1 e2
    exact ⟨v, sound_flat hs hops he w⟩
  obtain ⟨dst, op, ty, pos, after, g⟩ := o
  unfold compOp0 at hc
  replace hc := (cond_some hc).2
  cases op with
  | move x => cases hc; cases he; exact ⟨_, by simp [execOp], hops x (by simp [Op.operands])⟩
  | assign x => cases hc; cases he; exact ⟨_, by simp [execOp], hops x (by simp [Op.operands])⟩
  | pick c a b =>
    cases hc
    have h1 := hops c (by simp [Op.operands])
    have h2 := hops a (by simp [Op.operands])
    have h3 := hops b (by simp [Op.operands])
    simp only [exQ, q_pick] at he
    split at he
    · rename_i t ht
      cases he
      rw [ht] at h1
      have e : ρ' c = .bool t := h1.bool_eq
      cases t
      · exact ⟨_, by simp [execOp, asBool, e], h3⟩
      · exact ⟨_, by simp [execOp, asBool, e], h2⟩
    · cases he
  | load t x =>
    simp only [] at hc
    split at hc
    · rename_i ag s hag hs
      have hx := hops x (by simp [Op.operands])
      cases ag with
      | true =>
        cases hc
        obtain ⟨v', h1, h2⟩ := sound_load hr hag hs hx (v := v) (by simpa [exQ] using he)
        exact ⟨v', exec_v h1, h2⟩
      | false =>
        cases hc
        obtain ⟨v', h1, h2⟩ := sound_load hr hag hs hx (v := v) (by simpa [exQ] using he)
        exact ⟨v', exec_v h1, h2⟩
    · cases hc
  | nilCheck x => cases hc; exact sound_nilc (hops x (by simp [Op.operands])) he ρ' x rfl _ _ _ _ _ w
  | unOp u t x => cases hc; exact flat _ rfl rfl (fun _ _ h => by cases h)
  | binOp bop t x y yt =>
    have hx := hops x (by simp [Op.operands])
    have hy := hops y (by simp [Op.operands])
    have nil : ∀ (tag : Nat) (neg : Bool) (dd : TypeDesc), q = .nileq tag neg (od d x) (od d y) → bop = cond neg .neq .eql → P.underlying t = some dd → tagOk tag dd → ∃ v', (execOp ρ' ⟨dst, .binOp bop t x y yt, ty, pos, after, g⟩).run P w = .ok (.value v') w ∧ VR m v v' := by
      intro tag neg dd e hop hu ht
      subst e
      obtain ⟨v', h1, h2⟩ := sound_nileq hop hu ht hx hy he x y w
      exact ⟨v', exec_v h1, h2⟩
    have bin : q = .bin bop (od d x) (od d y) → ∃ v', (execOp ρ' ⟨dst, .binOp bop t x y yt, ty, pos, after, g⟩).run P w = .ok (.value v') w ∧ VR m v v' := by
      intro e
      subst e
      simp only [exQ, q_bin] at he
      split at he
      · rename_i k a k' b e1 e2
        rw [e1] at hx; rw [e2] at hy
        obtain ⟨h1, h2⟩ := intBin_run (P := P) (t := t) he w
        have g0 : (eqGuard bop t x y (.int k a) (.int k' b)).run P w = .ok () w := by cases bop <;> simp [eqGuard]
        refine ⟨v, ?_, h2 m⟩
        have e3 := hx.int_eq
        have e4 := hy.int_eq
        refine exec_v (s := do eqGuard bop t x y (ρ' x) (ρ' y); binOp bop t (ρ' x) (ρ' y)) ?_
        rw [e3, e4]
        simp [g0, h1]
      · cases he
    have hsel : ∀ cs b, Op.binOp bop t x y yt ≠ .select cs b := fun _ _ h => by cases h
    cases bop <;> simp only [] at hc <;> split at hc <;> first
      | (cases hc; exact bin rfl)
      | (cases hc; exact flat _ rfl rfl hsel)
      | (rename_i hu; cases hc; exact nil _ _ _ rfl rfl hu rfl)
      | (cases hc; rename_i hu _ _; exact nil _ _ _ rfl rfl hu rfl)
  | convert src dt x =>
    have hx := hops x (by simp [Op.operands])
    simp only [] at hc
    split at hc
    · rename_i k0 k hs hd
      cases hc
      obtain ⟨v', h1, h2⟩ := sound_conv hs hd hx he w
      exact ⟨v', exec_v h1, h2⟩
    · rename_i e hs hd
      split at hc
      · rename_i hu
        cases hc
        obtain ⟨v', h1, h2⟩ := sound_b2s hr hs hd hu hx he
        exact ⟨v', exec_v h1, h2⟩
      · cases hc
    · cases hc; exact flat _ rfl rfl (fun _ _ h => by cases h)
    · cases hc
  | makeInterface t x =>
    simp only [] at hc
    split at hc
    · cases hc
    · rename_i dd hne hu
      cases hc
      cases he
      refine ⟨.iface t (ρ' x), ?_, .iface t (hops x (by simp [Op.operands]))⟩
      refine exec_v (s := Instr.makeInterface t (ρ' x)) ?_
      simp only [Instr.makeInterface, Sem.run_bind, run_underlying hu, Result.andThen_ok]
      cases dd <;> first | rfl | exact absurd rfl (hne _)
    · cases hc
  | makeFunc fn a b =>
    cases fn with
    | func f =>
      cases hc
      cases he
      have h1 : VRs m ((a.toList.map (od d)).map ρ) (a.toList.map ρ') := VRs.of_map fun x hx => hops x (by simp [Op.operands]; exact .inl (by simpa using hx))
      have h2 : VRs m ((b.toList.map (od d)).map ρ) (b.toList.map ρ') := VRs.of_map fun x hx => hops x (by simp [Op.operands]; exact .inr (by simpa using hx))
      refine ⟨.func (.func f) (a.map ρ') (b.map ρ'), by simp [execOp, Instr.makeFunc], .fn f _ _ _ _ (by simp) (by simp) (fun j => ?_) (fun j => ?_)⟩
      · have := h1.2 j; simpa using this
      · have := h2.2 j; simpa using this
    | _ => cases hc
  | slice t x lo hi mx =>
    have hx := hops x (by simp [Op.operands])
    simp only [] at hc
    split at hc
    · rename_i e hu
      split at hc
      · rename_i s hs
        cases hc
        simp only [exQ] at he
        cases hlo : optNat ρ (lo.map (od d)) with
        | none => rw [hlo] at he; unfold q_slc at he; split at he <;> simp_all
        | some lo' =>
          cases hhi : optNat ρ (hi.map (od d)) with
          | none => rw [hhi] at he; unfold q_slc at he; split at he <;> simp_all
          | some hi' =>
            cases hmx : optNat ρ (mx.map (od d)) with
            | none => rw [hmx] at he; unfold q_slc at he; split at he <;> simp_all
            | some mx' =>
              rw [hlo, hhi, hmx] at he
              have i1 := isN_opt (m := m) (ρ' := ρ') (fun y e => hops y (by subst e; simp [Op.operands])) hlo
              have i2 := isN_opt (m := m) (ρ' := ρ') (fun y e => hops y (by subst e; simp [Op.operands])) hhi
              have i3 := isN_opt (m := m) (ρ' := ρ') (fun y e => hops y (by subst e; simp [Op.operands])) hmx
              obtain ⟨v', h1, h2⟩ := sound_slc hr hu hs hx i1 i2 i3 he
              exact ⟨v', exec_v h1, h2⟩
      · cases hc
    · cases hc; exact flat _ rfl rfl (fun _ _ h => by cases h)
    · cases hc
  | fieldAddr s x f =>
    have hx := hops x (by simp [Op.operands])
    simp only [] at hc
    split at hc
    · rename_i fs hu
      split at hc
      · rename_i fd hf
        split at hc
        · rename_i k hs
          cases hc
          obtain ⟨v', h1, h2⟩ := sound_fld hu hf hs hx he w
          exact ⟨v', exec_v h1, h2⟩
        · cases hc
      · cases hc
    · cases hc
  | field t x f =>
    have hx := hops x (by simp [Op.operands])
    simp only [] at hc
    split at hc
    · rename_i fs hu
      split at hc
      · rename_i fd hf
        split at hc
        · rename_i ag s hag hs
          cases ag with
          | true => cases hc; obtain ⟨v', h1, h2⟩ := sound_fldv hu hf hag hs hx (v := v) (by simpa [exQ] using he) w; exact ⟨v', exec_v h1, h2⟩
          | false => cases hc; obtain ⟨v', h1, h2⟩ := sound_fldv hu hf hag hs hx (v := v) (by simpa [exQ] using he) w; exact ⟨v', exec_v h1, h2⟩
        · cases hc
      · cases hc
    · cases hc
  | indexAddr t x i =>
    have hx := hops x (by simp [Op.operands])
    have hi := hops i (by simp [Op.operands])
    simp only [] at hc
    split at hc
    · rename_i e hu
      split at hc
      · rename_i s hs
        cases hc
        obtain ⟨v', h1, h2⟩ := sound_idx hu hs hx hi he w
        exact ⟨v', exec_v h1, h2⟩
      · cases hc
    · rename_i n e hu
      split at hc
      · rename_i s hs
        cases hc
        obtain ⟨v', h1, h2⟩ := sound_idxA hu hs hx hi he w
        exact ⟨v', exec_v h1, h2⟩
      · cases hc
    · cases hc
  | index t x i =>
    simp only [] at hc
    split at hc
    · cases hc; exact flat _ rfl rfl (fun _ _ h => by cases h)
    · cases hc
  | lookup t x i ok =>
    have hx := hops x (by simp [Op.operands])
    have hi := hops i (by simp [Op.operands])
    simp only [] at hc
    split at hc
    · rename_i kt e hu
      split at hc
      · rename_i kd z hk hz
        cases hc
        obtain ⟨v', h1, h2⟩ := sound_look (kd := some kd) hr hu hk hz hx hi he
        exact ⟨v', exec_v h1, h2⟩
      · rename_i z hk hz
        cases hc
        obtain ⟨v', h1, h2⟩ := sound_look (kd := none) hr hu hk hz hx hi he
        exact ⟨v', exec_v h1, h2⟩
      · cases hc
    · cases hc
  | extract t ix =>
    cases hc
    obtain ⟨v', h1, h2⟩ := sound_ext (hops t (by simp [Op.operands])) he w
    exact ⟨v', exec_v h1, h2⟩
  | build t parts =>
    have hv : ∀ x ∈ parts.toList.map (·.2), VR m (ρ (od d x)) (ρ' x) := fun x hx => hops x (by simpa [Op.operands] using hx)
    simp only [] at hc
    split at hc
    · rename_i fs zs hu hz
      split at hc
      · rename_i pl hpl
        split at hc
        · rename_i ps hps
          cases hc
          obtain ⟨v', h1, h2⟩ := sound_build_struct hu hz hpl hps hv he w
          exact ⟨v', exec_v h1, h2⟩
        · cases hc
      · cases hc
    · rename_i n e zs hu hz
      split at hc
      · rename_i s hs
        cases hc
        obtain ⟨v', h1, h2⟩ := sound_build_array hu hz hs hv he w
        exact ⟨v', exec_v h1, h2⟩
      · cases hc
    · cases hc
  | call c =>
    obtain ⟨callee, args, argTypes⟩ := c
    cases callee with
    | builtin b =>
      have one : ∀ (x : Operand) (t : TypeId) (s : Sem Value), args.toList = [x] → argTypes[0]? = some t → (∃ v', s.run P w = .ok v' w ∧ VR m v v') →
          (execOp ρ' ⟨dst, .call ⟨.builtin b, args, argTypes⟩, ty, pos, after, g⟩ = (do pure (Next.value (← s)) : Sem Next)) →
          ∃ v', (execOp ρ' ⟨dst, .call ⟨.builtin b, args, argTypes⟩, ty, pos, after, g⟩).run P w = .ok (.value v') w ∧ VR m v v' := by
        rintro x t s _ _ ⟨v', h1, h2⟩ e
        exact ⟨v', by rw [e]; exact exec_v h1, h2⟩
      have ops1 : ∀ x, args.toList = [x] → VR m (ρ (od d x)) (ρ' x) := fun x hx => hops x (by simp [Op.operands, Call.operands, hx])
      have arr1 : ∀ x, args.toList = [x] → args = #[x] := fun x hx => by cases args; simp_all
      cases b with
      | len =>
        simp only [] at hc
        split at hc
        · rename_i t x ht hx
          obtain rfl := arr1 x hx
          split at hc
          · rename_i e hu
            cases hc
            obtain ⟨v', h1, h2⟩ := sound_len hu (ops1 x hx) he ty w
            refine ⟨v', ?_, h2⟩
            have e1 : (Builtin.len_ argTypes ty #[ρ' x]).run P w = .ok v' w := by
              have : Builtin.len_ argTypes ty #[ρ' x] = Builtin.len_ #[t] ty #[ρ' x] := by simp [Builtin.len_, ht]
              rw [this]; exact h1
            simp [execOp, resolve, invoke, builtin, e1]
          · rename_i hu
            cases hc
            obtain ⟨v', h1, h2⟩ := sound_lens hu (ops1 x hx) he ty w
            refine ⟨v', ?_, h2⟩
            have e1 : (Builtin.len_ argTypes ty #[ρ' x]).run P w = .ok v' w := by
              have : Builtin.len_ argTypes ty #[ρ' x] = Builtin.len_ #[t] ty #[ρ' x] := by simp [Builtin.len_, ht]
              rw [this]; exact h1
            simp [execOp, resolve, invoke, builtin, e1]
          · cases hc
        · cases hc
      | cap =>
        simp only [] at hc
        split at hc
        · rename_i t x ht hx
          obtain rfl := arr1 x hx
          split at hc
          · rename_i e hu
            cases hc
            obtain ⟨v', h1, h2⟩ := sound_cap hu (ops1 x hx) he ty w
            refine ⟨v', ?_, h2⟩
            have e1 : (Builtin.cap_ argTypes ty #[ρ' x]).run P w = .ok v' w := by
              have : Builtin.cap_ argTypes ty #[ρ' x] = Builtin.cap_ #[t] ty #[ρ' x] := by simp [Builtin.cap_, ht]
              rw [this]; exact h1
            simp [execOp, resolve, invoke, builtin, e1]
          · cases hc
        · cases hc
      | max => cases hc; exact flat _ rfl rfl (fun _ _ h => by cases h)
      | min => cases hc; exact flat _ rfl rfl (fun _ _ h => by cases h)
      | append =>
        exfalso
        simp only [] at hc
        repeat' (split at hc)
        all_goals first | exact absurd hc (by simp) | exact absurd (cond_some hc).2 (by simp)
      | copy =>
        exfalso
        simp only [] at hc
        repeat' (split at hc)
        all_goals exact absurd hc (by simp)
      | delete =>
        exfalso
        simp only [] at hc
        repeat' (split at hc)
        all_goals exact absurd hc (by simp)
      | _ => cases hc
    | value f =>
      exfalso
      cases f with
      | func f =>
        simp only [] at hc
        split at hc
        · replace hc := (cond_some hc).2; cases hc
        · cases hc
      | tmp t => cases hc
      | _ => cases hc
    | invoke r n => cases hc
  | alloc t =>
    exfalso
    simp only [] at hc
    split at hc <;> cases hc
  | buildSlice t n ps =>
    exfalso
    simp only [] at hc
    split at hc
    · split at hc
      · replace hc := (cond_some hc).2; cases hc
      · cases hc
    · cases hc
  | store t a x =>
    exfalso
    simp only [] at hc
    split at hc <;> cases hc
  | makeSlice t l c =>
    exfalso
    simp only [] at hc
    split at hc
    · split at hc
      · replace hc := (cond_some hc).2; cases hc
      · cases hc
    · cases hc
  | mapUpdate t mm k x =>
    exfalso
    simp only [] at hc
    split at hc
    · split at hc <;> cases hc
    · cases hc
  | makeMap t r => cases r <;> cases hc
  | _ => cases hc

end Go.Ev
