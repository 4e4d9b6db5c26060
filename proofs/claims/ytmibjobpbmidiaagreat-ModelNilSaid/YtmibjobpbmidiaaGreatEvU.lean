/-
  A machine-free evaluator for calls ('Go.Ev'): the machine's operations that make a block. Own work.
-/
import Derived.Test.YtmibjobpbmidiaaGreatEvT
namespace Go.Ev
set_option linter.unusedSimpArgs false
set_option linter.unusedVariables false
open Go Go.RowKit Go.MapKept
variable {P : Program}

/-- What an operation that makes a block does. -/
def Makes (P : Program) (m : Mp) (s : Sem Next) (w : World) (ob : AObj) (av : AV) : Prop :=
  ∃ (obj : Obj) (i : Inf) (v' : Value), s.run P w = .ok (.value v') (w.alloc obj) ∧ i.blk = w.heap.size ∧
    ∀ id, m id = none → ORel P (put m id i) (w.alloc obj) i ob ∧ VR (put m id i) (av.val id) v'

theorem oRel_new {m : Mp} {w : World} {l : List Value} {C : Array Value} (e : TypeId) (esz : Nat) (h : VRs m l C.toList) {id : Nat} (hid : m id = none) :
    ORel P (put m id ⟨w.heap.size, 0, C.size, esz⟩) (w.alloc (.cells C e)) ⟨w.heap.size, 0, C.size, esz⟩ (.cells false (Cs.ofL l) esz) := by
  have hl : l.length = C.size := by simpa using h.1
  have hn : (Cs.ofL l).n = C.size := hl
  refine ⟨C, e, (0, 0), heap_alloc_new w _, rfl, rfl, by rw [hn]; simp, ?_, fun _ => rfl⟩
  rw [Cs.toL_ofL, hn, List.drop_zero, List.take_of_length_le (by simp)]
  exact h.mono (Sub.put hid)

theorem makes_ptr {m : Mp} {s : Sem Next} {w : World} {l : List Value} {C : Array Value} {e : TypeId} (esz : Nat) (h : VRs m l C.toList) (hs : s.run P w = .ok (.value (.pointer (some ⟨w.heap.size, 0, none⟩))) (w.alloc (.cells C e))) :
    Makes P m s w (.cells false (Cs.ofL l) esz) .ptr :=
  ⟨_, ⟨w.heap.size, 0, C.size, esz⟩, _, hs, rfl, fun id hid => ⟨oRel_new e esz h hid, VR.ptr (put_same m id _)⟩⟩

theorem makes_sl {m : Mp} {s : Sem Next} {w : World} {l : List Value} {C : Array Value} {e : TypeId} (esz n c : Nat) (h : VRs m l C.toList) (hn : n ≤ c) (hc : c < UNK)
    (hs : s.run P w = .ok (.value (.slice (some ⟨w.heap.size, 0, none⟩) n c)) (w.alloc (.cells C e))) : Makes P m s w (.cells false (Cs.ofL l) esz) (.sl n c) :=
  ⟨_, ⟨w.heap.size, 0, C.size, esz⟩, _, hs, rfl, fun id hid => ⟨oRel_new e esz h hid, VR.slK (put_same m id _) hc hn (.inl rfl)⟩⟩

theorem pat_eq {zs : List Value} {A : Array Value} (h : A.toList = zs) {n : Nat} (hz : n = 0 ∨ 0 < zs.length) : ((Array.range n).map (A[· % A.size]!)).toList = pat zs n := by
  subst h
  unfold pat
  rw [Array.toList_map, Array.toList_range]
  apply List.map_congr_left
  intro i hi
  have hi : i < n := by simpa using hi
  have h0 : 0 < A.size := by
    rcases hz with h | h
    · omega
    · simpa using h
  have hm : i % A.size < A.size := Nat.mod_lt _ h0
  simp [List.getD_eq_getElem?_getD, hm, Array.getElem!_eq_getD, Array.getD]

theorem pat_vrs {m : Mp} {zs : List Value} (h : ∀ m, VRs m zs zs) (n : Nat) : VRs m (pat zs n) (pat zs n) := by
  refine VRs.of_get rfl fun j v hv => ⟨v, hv, ?_⟩
  unfold pat at hv
  rw [List.getElem?_map] at hv
  cases hr : (List.range n)[j]? with
  | none => simp [hr] at hv
  | some k =>
    simp [hr] at hv
    subst hv
    simpa using (h m).2 (k % zs.length)

theorem natOf_eq {m : Mp} {v v' : Value} {n : Nat} (h : natOf v = some n) (hv : VR m v v') : ∃ k, v' = .int k (n : Int) := by
  obtain ⟨k, rfl⟩ := natOf_some h
  exact ⟨k, hv.int_eq⟩

/-- What the model takes for zeros: nothing, or the type's zero's cells. -/
def ZerosAre (P : Program) (e : TypeId) (N : Nat) (Z : Array Value) (w : World) : Prop :=
  (N = 0 ∧ Z = #[]) ∨ (N ≠ 0 ∧ ∃ z, (zeroValue e).run P w = .ok z w ∧ Z = z.cells)

theorem run_buildSlice {t e : TypeId} {s n : Nat} {ps : Array (Nat × Value)} {Z R : Array Value} {w : World} (hu : P.underlying t = some (.slice e)) (hs : sizeOfT P e = some s) (h24 : ¬ 16777216 < n * s)
    (hZ : ZerosAre P e (n * s) Z w)
    (hf : Instr.fill (fun i => some (i * s, s)) ((Array.range (n * s)).map (Z[· % Z.size]!)) ps.toList = some R) :
    (Instr.buildSlice t n ps).run P w = .ok (.slice (some ⟨w.heap.size, 0, none⟩) n n) (w.alloc (.cells R e)) := by
  unfold Instr.buildSlice
  simp only [Sem.run_bind, run_underlying hu, Result.andThen_ok, run_size hs, Nat.reducePow, gt_iff_lt, h24, if_false, Sem.run_pure]
  rcases hZ with ⟨h0, rfl⟩ | ⟨h0, z, hz, rfl⟩
  · simp only [h0, if_true, Sem.run_bind, Sem.run_pure, Result.andThen_ok] at hf ⊢
    simp only [hf, newRow, Sem.run_bind, run_newObj, Sem.run_pure, Result.andThen_ok]
    rfl
  · simp only [h0, if_false, Sem.run_bind, hz, Sem.run_pure, Result.andThen_ok, hf, newRow, run_newObj]
    rfl

/-- A row of zeros, as the model lays it. -/
theorem zeros_run {e : TypeId} {zs : List Value} (hz : zeroT P e = some zs) (w : World) (N : Nat) (hN : N = 0 ∨ 0 < zs.length) : ∃ Z : Array Value,
    ZerosAre P e N Z w ∧ ((Array.range N).map (Z[· % Z.size]!)).toList = pat zs N ∧ ∀ m, VRs m (pat zs N) (pat zs N) := by
  obtain ⟨z, hzr, hze, hzv⟩ := zeroT_run hz w
  by_cases h0 : N = 0
  · exact ⟨#[], .inl ⟨h0, rfl⟩, by simp [h0, pat], fun m => pat_vrs hzv N⟩
  · exact ⟨z.cells, .inr ⟨h0, z, hzr, rfl⟩, pat_eq hze hN, fun m => pat_vrs hzv N⟩

theorem run_makeSlice {t e : TypeId} {i : TypeInfo} {l c : Nat} {kl kc : IntKind} {Z : Array Value} {w : World} (hu : P.underlying t = some (.slice e)) (hi : P.info? e = some i) (hlc : l ≤ c) (hc : c < 4611686018427387904) (hb : c * i.bytes ≤ 140737488355328)
    (hZ : ZerosAre P e (c * i.size) Z w) :
    (Instr.makeSlice t (.int kl (l : Int)) (.int kc (c : Int))).run P w = .ok (.slice (some ⟨w.heap.size, 0, none⟩) l c) (w.alloc (.cells ((Array.range (c * i.size)).map (Z[· % Z.size]!)) e)) := by
  have wl : IntKind.i64.wrap (l : Int) = l := IntWalk.i64_in _ (by omega)
  have wc : IntKind.i64.wrap (c : Int) = c := IntWalk.i64_in _ (by omega)
  have hby : ¬ (281474976710656 < (i.bytes : Int) * c) := by
    have e : (i.bytes : Int) * c = ((c * i.bytes : Nat) : Int) := by push_cast; rw [Int.mul_comm]
    rw [e]; omega
  have g1 : ¬ ((c : Int) < 0) := by omega
  have g2 : ¬ ((l : Int) < 0) := by omega
  have g3 : ¬ ((c : Int) < l) := by omega
  unfold Instr.makeSlice
  simp only [Sem.run_bind, run_underlying hu, Result.andThen_ok, asInt, asIntOf, Sem.run_pure, typeInfo, run_program, hi, wl, wc, gt_iff_lt, Int.reducePow, hby, g1, g2, g3, decide_false, Bool.or_self, Bool.false_eq_true, if_false, run_askRoom, Int.toNat_natCast, sizeOf]
  rcases hZ with ⟨h0, rfl⟩ | ⟨h0, z, hz, rfl⟩
  · simp only [h0, if_true, Sem.run_bind, Sem.run_pure, Result.andThen_ok, newRow, run_newObj]
    rfl
  · simp only [h0, if_false, Sem.run_bind, hz, Sem.run_pure, Result.andThen_ok, newRow, run_newObj]
    rfl

set_option maxHeartbeats 1000000 in
theorem sound_a {m : Mp} {d : Nat} {o : Oper} {k : KA} (hc : compOp0 P d o = some (.a k)) {ρ : Od → Value} {ρ' : Operand → Value} (hops : OpsR m d o.op ρ ρ') {ob : AObj} {av : AV} (he : exA ρ k = some (ob, av)) (w : World) :
    Makes P m (execOp ρ' o) w ob av ∧ ob.rw = true := by
  obtain ⟨dst, op, ty, pos, after, g⟩ := o
  unfold compOp0 at hc
  replace hc := (cond_some hc).2
  cases op with
  | alloc t =>
    simp only [] at hc
    split at hc
    · rename_i zs hz
      cases hc
      cases he
      obtain ⟨z, hzr, hze, hzv⟩ := zeroT_run hz w
      refine ⟨makes_ptr (C := z.cells) (e := t) 0 (by rw [hze]; exact hzv m) (exec_v (s := Instr.alloc t true (.tuple #[])) ?_), rfl⟩
      simp [Instr.alloc, hzr, newVar, newRow]
    · cases hc
  | box t x =>
    cases hc
    cases he
    have hx := hops x (by simp [Op.operands])
    refine ⟨makes_ptr (C := (ρ' x).cells) (e := t) 0 hx.cells (exec_v (s := Instr.box t (ρ' x)) ?_), rfl⟩
    simp [Instr.box, newVar, newRow]
  | buildSlice t n ps =>
    simp only [] at hc
    split at hc
    · rename_i e hu
      split at hc
      · rename_i s zs hs hz
        obtain ⟨hb, hc⟩ := cond_some hc
        simp only [Bool.and_eq_true, Nat.ble_eq, blt_dec, decide_eq_true_eq, beq_iff] at hb
        cases hc
        simp only [exA, a_bslice] at he
        split at he
        · rename_i cs hcs
          cases he
          have hv : ∀ x ∈ ps.toList.map (·.2), VR m (ρ (od d x)) (ρ' x) := fun x hx => hops x (by simpa [Op.operands] using hx)
          obtain ⟨Z, hZr, hpat, hpv⟩ := zeros_run hz w (n * s) (by
            rcases Nat.eq_zero_or_pos s with h | h
            · exact .inl (by rw [h]; simp)
            · exact .inr (by omega))
          rw [List.map_map] at hcs
          obtain ⟨R, h1, h2⟩ := fill_rel (C := (Array.range (n * s)).map (Z[· % Z.size]!)) (partsR_array (s := s) hv) (by rw [hpat]; exact hpv _) hcs
          have hmap : (ps.map fun (x : Nat × Operand) => (x.1, ρ' x.2)).toList = ps.toList.map fun (x : Nat × Operand) => (x.1, ρ' x.2) := by simp
          have h3 := run_buildSlice (P := P) (n := n) (ps := ps.map fun (x : Nat × Operand) => (x.1, ρ' x.2)) (R := R) hu hs (by omega) hZr (by rw [hmap]; exact h1)
          exact ⟨makes_sl s n n h2 (Nat.le_refl _) hb.1.2 (exec_v h3), rfl⟩
        · cases he
      · cases hc
    · cases hc
  | makeSlice t l c =>
    have hl := hops l (by simp [Op.operands])
    have hcc := hops c (by simp [Op.operands])
    simp only [] at hc
    split at hc
    · rename_i e hu
      split at hc
      · rename_i i zs hi hz
        obtain ⟨hzl, hc⟩ := cond_some hc
        rw [beq_iff, decide_eq_true_iff] at hzl
        cases hc
        simp only [exA, a_mks] at he
        split at he
        · rename_i l0 c0 hl0 hc0
          obtain ⟨hb, he⟩ := cond_some he
          simp only [Bool.and_eq_true, Nat.ble_eq, blt_dec, decide_eq_true_eq] at hb
          cases he
          obtain ⟨kl, el⟩ := natOf_eq hl0 hl
          obtain ⟨kc, ec⟩ := natOf_eq hc0 hcc
          obtain ⟨Z, hZr, hpat, hpv⟩ := zeros_run hz w (c0 * i.size) (by
            rcases Nat.eq_zero_or_pos i.size with h | h
            · exact .inl (by rw [h]; simp)
            · exact .inr (by omega))
          have h3 := run_makeSlice (P := P) (kl := kl) (kc := kc) hu hi hb.1.1 hb.2 hb.1.2 hZr
          rw [← el, ← ec] at h3
          exact ⟨makes_sl i.size l0 c0 (by rw [hpat]; exact hpv _) hb.1.1 hb.2 (exec_v h3), rfl⟩
        · cases he
      · cases hc
    · cases hc
  | makeMap t r =>
    cases r with
    | none =>
      cases hc
      cases he
      refine ⟨⟨.map #[] 0, ⟨w.heap.size, 0, 0, 0⟩, .map (some w.heap.size), exec_v (s := Instr.makeMap t none) (by simp [Instr.makeMap]), rfl, fun id hid => ⟨⟨#[], heap_alloc_new w _, rfl, fun k e h => by simp at h⟩, ?_⟩⟩, rfl⟩
      exact VR.map (i := ⟨w.heap.size, 0, 0, 0⟩) (put_same m id _)
    | some x => cases hc
  | load t x =>
    exfalso
    simp only [] at hc
    split at hc
    · rename_i ag s hag hs
      cases ag <;> exact absurd hc (by simp)
    · cases hc
  | build t parts =>
    exfalso
    simp only [] at hc
    repeat' (split at hc)
    all_goals exact absurd hc (by simp)
  | store t a x =>
    exfalso
    simp only [] at hc
    split at hc <;> cases hc
  | binOp bop t x y yt =>
    exfalso
    cases bop <;> simp only [] at hc <;> split at hc <;> exact absurd hc (by simp)
  | convert src dt x =>
    exfalso
    simp only [] at hc
    repeat' (split at hc)
    all_goals exact absurd hc (by simp)
  | makeInterface t x =>
    exfalso
    simp only [] at hc
    repeat' (split at hc)
    all_goals exact absurd hc (by simp)
  | makeFunc fn a b => cases fn <;> exact absurd hc (by simp)
  | slice t x lo hi mx =>
    exfalso
    simp only [] at hc
    repeat' (split at hc)
    all_goals exact absurd hc (by simp)
  | fieldAddr s x f =>
    exfalso
    simp only [] at hc
    repeat' (split at hc)
    all_goals exact absurd hc (by simp)
  | field t x f =>
    exfalso
    simp only [] at hc
    split at hc
    · split at hc
      · split at hc
        · rename_i ag s hag hs
          cases ag <;> exact absurd hc (by simp)
        · cases hc
      · cases hc
    · cases hc
  | indexAddr t x i =>
    exfalso
    simp only [] at hc
    repeat' (split at hc)
    all_goals exact absurd hc (by simp)
  | index t x i =>
    exfalso
    simp only [] at hc
    split at hc <;> exact absurd hc (by simp)
  | lookup t x i ok =>
    exfalso
    simp only [] at hc
    repeat' (split at hc)
    all_goals exact absurd hc (by simp)
  | mapUpdate t mm k x =>
    exfalso
    simp only [] at hc
    repeat' (split at hc)
    all_goals exact absurd hc (by simp)
  | call c =>
    exfalso
    obtain ⟨callee, args, argTypes⟩ := c
    cases callee with
    | builtin b =>
      cases b <;> simp only [] at hc <;> (try (repeat' (split at hc))) <;> first | exact absurd hc (by simp) | exact absurd (cond_some hc).2 (by simp)
    | value f =>
      cases f with
      | func f =>
        simp only [] at hc
        split at hc
        · exact absurd (cond_some hc).2 (by simp)
        · cases hc
      | _ => exact absurd hc (by simp)
    | invoke r n => cases hc
  | _ => cases hc

end Go.Ev
