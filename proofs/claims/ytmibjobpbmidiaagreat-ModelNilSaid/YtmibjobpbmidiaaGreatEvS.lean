/-
  A machine-free evaluator for calls ('Go.Ev'): what turns nothing does on the machine what it does here. Own work.
-/
import Derived.Test.YtmibjobpbmidiaaGreatEvB
import Derived.ChangeKeysEq
import Derived.Laws.Entries
import Derived.IntWalk
namespace Go.Ev
set_option linter.unusedSimpArgs false
set_option linter.unusedVariables false
open Go Go.RowKit Go.MapKept

variable {P : Program}

theorem run_size {t : TypeId} {s : Nat} (h : sizeOfT P t = some s) (w : World) : (sizeOf t).run P w = .ok s w := by
  unfold sizeOfT at h
  cases hi : P.info? t with
  | none => simp [hi] at h
  | some i => simp [hi] at h; subst h; simp [sizeOf, typeInfo, hi]

theorem run_agg {t : TypeId} {b : Bool} (h : isAggT P t = some b) (w : World) : (isAgg t).run P w = .ok b w := by
  unfold isAggT at h
  cases hd : P.underlying t with
  | none => simp [hd] at h
  | some d =>
    simp only [hd, Option.map_some, Option.some.injEq] at h
    subst h
    simp only [isAgg, Sem.run_bind, run_underlying hd, Result.andThen_ok]
    cases d <;> rfl

/-- What is asked of the operands. -/
def OpsR (m : Mp) (d : Nat) (o : Op) (ρ : Od → Value) (ρ' : Operand → Value) : Prop := ∀ x, x ∈ o.operands.toList → VR m (ρ (od d x)) (ρ' x)

theorem pureP_run {α : Type} : ∀ (e : Sem α) {a : α}, pureP P e = some a → ∀ w, e.run P w = .ok a w
  | .pure b, a, h, w => by simp [pureP] at h; subst h; rfl
  | .program k, a, h, w => by
    have h' : pureP P (k P) = some a := h
    exact pureP_run (k P) h' w
  | .load .., _, h, _ => by simp [pureP] at h
  | .store .., _, h, _ => by simp [pureP] at h
  | .new .., _, h, _ => by simp [pureP] at h
  | .shape .., _, h, _ => by simp [pureP] at h
  | .freeze .., _, h, _ => by simp [pureP] at h
  | .frozen .., _, h, _ => by simp [pureP] at h
  | .getObj .., _, h, _ => by simp [pureP] at h
  | .setObj .., _, h, _ => by simp [pureP] at h
  | .choose .., _, h, _ => by simp [pureP] at h
  | .sys .., _, h, _ => by simp [pureP] at h
  | .mark .., _, h, _ => by simp [pureP] at h
  | .halt .., _, h, _ => by simp [pureP] at h

theorem execOp_flatO (ρ : Operand → Value) (o : Oper) : execOp ρ o = execOp ρ (flatO o.op o.type) := by
  obtain ⟨dst, op, type, pos, after, guard⟩ := o
  cases op <;> rfl

theorem cond_some {α : Type} {b : Bool} {x : Option α} {v : α} (h : cond b x none = some v) : b = true ∧ x = some v := by cases b <;> simp_all

theorem sound_flat {d : Nat} {o : Oper} {m : Mp} {ρ : Od → Value} {ρ' : Operand → Value} {v : Value} (hs : ∀ cs b, o.op ≠ .select cs b) (hops : OpsR m d o.op ρ ρ') (he : q_flat P ρ d o.op o.type = some v) (w : World) :
    (execOp ρ' o).run P w = .ok (.value v) w ∧ VR m v v := by
  obtain ⟨hf, hp⟩ := cond_some he
  have hρ : ∀ x ∈ (flatO o.op o.type).op.operands, ρ' x = (fun x => ρ (od d x)) x := fun x hx => by
    have hx' : x ∈ o.op.operands.toList := by simpa [flatO] using hx
    rw [List.all_eq_true] at hf
    exact (hops x hx').eq_flat (hf x hx')
  rw [execOp_flatO, execOp_congr (flatO o.op o.type) hs hρ]
  unfold q_pure at hp
  split at hp
  · rename_i v0 hv
    obtain ⟨hfl, e⟩ := cond_some hp
    cases e
    exact ⟨pureP_run _ hv w, VR.refl_flat hfl⟩
  · cases hp

theorem ite_cond {α : Type} (m n : Nat) (x y : α) : cond (Nat.blt m n) x y = if m < n then x else y := by
  have : Nat.blt m n = decide (m < n) := by
    rw [Bool.eq_iff_iff, decide_eq_true_iff]
    unfold Nat.blt
    rw [Nat.ble_eq]
    omega
  rw [this]
  by_cases h : m < n <;> simp [h]

theorem wrapF_eq (k : IntKind) (n : Int) : wrapF k n = k.wrap n := by
  unfold wrapF
  split
  · rename_i m
    rw [ite_cond]
    split
    · rw [IntWalk.i64_in]; rw [Int.ofNat_eq_natCast]; omega
    · rfl
  · rename_i m
    rw [ite_cond]
    split
    · rw [IntWalk.i64_in]; rw [Int.negSucc_eq]; omega
    · rfl
  · rfl

theorem blt_dec (a b : Nat) : Nat.blt a b = decide (a < b) := by
  rw [Bool.eq_iff_iff, decide_eq_true_iff]
  unfold Nat.blt
  rw [Nat.ble_eq]
  omega

theorem ltF_eq (a b : Int) : ltF a b = decide (a < b) := by
  cases a with
  | ofNat m => cases b with
    | ofNat n => simp only [ltF, blt_dec, Int.ofNat_eq_natCast, Int.ofNat_lt]
    | negSucc n => simp only [ltF, Int.ofNat_eq_natCast]; symm; rw [decide_eq_false_iff_not, Int.negSucc_eq]; omega
  | negSucc m => cases b with
    | ofNat n => simp only [ltF, Int.ofNat_eq_natCast]; symm; rw [decide_eq_true_iff, Int.negSucc_eq]; omega
    | negSucc n => simp only [ltF, blt_dec, Int.negSucc_eq]; congr 1; rw [eq_iff_iff]; omega
theorem eqF_eq (a b : Int) : eqF a b = decide (a = b) := by
  cases a with
  | ofNat m => cases b with
    | ofNat n => simp only [eqF, beq_iff, Int.ofNat_eq_natCast]; congr 1; rw [eq_iff_iff]; omega
    | negSucc n => simp [eqF]
  | negSucc m => cases b with
    | ofNat n => simp [eqF]
    | negSucc n => simp only [eqF, beq_iff, Int.negSucc.injEq]
theorem ikF_eq (a b : IntKind) : ikF a b = decide (a = b) := by cases a <;> cases b <;> rfl

theorem intBin_run {op : BinOp} {t : TypeId} {k k' : IntKind} {a b : Int} {v : Value} (h : intBin op k a k' b = some v) (w : World) : (binOp op t (.int k a) (.int k' b)).run P w = .ok v w ∧ ∀ m, VR m v v := by
  unfold intBin at h
  split at h
  · unfold intShl at h
    rw [ltF_eq] at h
    by_cases hb : b < 0 <;> simp [hb] at h
    subst h
    exact ⟨by simp [binOp, Op.shift, hb], fun m => .int _ _⟩
  · unfold intShr at h
    rw [ltF_eq] at h
    by_cases hb : b < 0 <;> simp [hb] at h
    subst h
    exact ⟨by simp [binOp, Op.shift, hb], fun m => .int _ _⟩
  · rename_i h1 h2
    rw [ikF_eq] at h
    obtain ⟨hk0, h'⟩ := cond_some h
    clear h
    have hk : k = k' := by simpa using hk0
    clear hk0
    subst hk
    have h := h'
    cases op
    case shl => exact (h1 rfl).elim
    case shr => exact (h2 rfl).elim
    case add => cases h; exact ⟨by rw [wrapF_eq]; simp [binOp, Op.intArith], fun m => .int _ _⟩
    case sub => cases h; exact ⟨by rw [wrapF_eq]; simp [binOp, Op.intArith]; rfl, fun m => .int _ _⟩
    case mul => cases h; exact ⟨by rw [wrapF_eq]; simp [binOp, Op.intArith], fun m => .int _ _⟩
    case quo =>
      have h : intQuo k a b = some v := h
      unfold intQuo at h; rw [eqF_eq, wrapF_eq] at h
      by_cases hb : b = 0 <;> simp [hb] at h
      subst h; exact ⟨by simp [binOp, Op.intDiv, hb], fun m => .int _ _⟩
    case rem =>
      have h : intRem k a b = some v := h
      unfold intRem at h; rw [eqF_eq] at h
      by_cases hb : b = 0 <;> simp [hb] at h
      subst h; exact ⟨by simp [binOp, Op.intDiv, hb], fun m => .int _ _⟩
    case and => cases h; exact ⟨by simp [binOp, Op.intBits], fun m => .int _ _⟩
    case or => cases h; exact ⟨by simp [binOp, Op.intBits], fun m => .int _ _⟩
    case xor => cases h; exact ⟨by simp [binOp, Op.intBits], fun m => .int _ _⟩
    case andNot => cases h; exact ⟨by simp [binOp, Op.intBits], fun m => .int _ _⟩
    case eql => cases h; exact ⟨by rw [eqF_eq]; simp [binOp, Op.intCmp]; rw [Bool.eq_iff_iff]; simp, fun m => .bool _⟩
    case neq => cases h; exact ⟨by rw [eqF_eq]; simp [binOp, Op.intCmp, bne]; rfl, fun m => .bool _⟩
    case lss => cases h; exact ⟨by rw [ltF_eq]; simp [binOp, Op.intCmp], fun m => .bool _⟩
    case leq => cases h; exact ⟨by rw [ltF_eq]; simp [binOp, Op.intCmp]; rw [Bool.eq_iff_iff]; simp, fun m => .bool _⟩
    case gtr => cases h; exact ⟨by rw [ltF_eq]; simp [binOp, Op.intCmp], fun m => .bool _⟩
    case geq => cases h; exact ⟨by rw [ltF_eq]; simp [binOp, Op.intCmp]; rw [Bool.eq_iff_iff]; simp, fun m => .bool _⟩

/-! ### Reading -/

theorem add_none (b o n : Nat) : (⟨b, o, none⟩ : Addr).add n = ⟨b, o + n, none⟩ := by unfold Addr.add; split <;> simp_all

/-- A block of cells that stands in the world: its cells there. -/
theorem Rel.cells {B : Nat} {W w : World} {m : Mp} {H : Heap} (h : Rel P B W w m H) {id : Nat} {i : Inf} {ro : Bool} {c : Cs} {esz : Nat} (hg : H.get id = some (.cells ro c esz)) (hm : m id = some i) :
    ∃ C e fr, w.heap[i.blk]? = some (.cells C e fr) ∧ C.size = i.size ∧ i.esz = esz ∧ i.base + c.n ≤ C.size ∧ VRs m c.toL ((C.toList.drop i.base).take c.n) ∧ (ro = false → fr = (0, 0)) := h.obj id _ i hg hm

theorem Rel.cell {B : Nat} {W w : World} {m : Mp} {H : Heap} (h : Rel P B W w m H) {id o : Nat} {i : Inf} {v : Value} (hg : rdCell H id o = some v) (hm : m id = some i) : ∃ v', w.cell? ⟨i.blk, i.base + o, none⟩ = some v' ∧ VR m v v' := by
  unfold rdCell at hg
  split at hg
  · rename_i c esz hc
    obtain ⟨ho, hv⟩ := cond_some hg
    rw [blt_dec, decide_eq_true_iff] at ho
    simp only [Option.some.injEq] at hv
    obtain ⟨C, e, fr, h1, h2, h3, h4, h5, h6⟩ := h.cells hc hm
    have hk : c.toL[o]? = some v := by
      have := BT.rd_get c.t c.n 0 o
      rw [Nat.zero_add, if_pos ho, hv] at this
      exact this
    obtain ⟨v', hv', r⟩ := h5.get hk
    rw [List.getElem?_take, if_pos ho, List.getElem?_drop] at hv'
    exact ⟨v', by simpa [World.cell?, h1] using hv', r⟩
  · cases hg

theorem Rel.rd {B : Nat} {W w : World} {m : Mp} {H : Heap} (h : Rel P B W w m H) {id o n : Nat} {i : Inf} {cs : List Value} (hg : rdCells H id o n = some cs) (hm : m id = some i) :
    ∃ cs' : List Value, cs'.length = n ∧ VRs m cs cs' ∧ ∀ j v, cs'[j]? = some v → w.cell? ((⟨i.blk, i.base + o, none⟩ : Addr).add j) = some v := by
  unfold rdCells at hg
  split at hg
  · rename_i c esz hc
    obtain ⟨ho, hv⟩ := cond_some hg
    rw [Nat.ble_eq] at ho
    simp only [Option.some.injEq] at hv
    obtain ⟨C, e, fr, h1, h2, h3, h4, h5, h6⟩ := h.cells hc hm
    refine ⟨(((C.toList.drop i.base).take c.n).drop o).take n, ?_, ?_, ?_⟩
    · simp only [List.length_take, List.length_drop, Array.length_toList]; omega
    · rw [← hv, c.rd_eq ho]; exact (h5.drop o).take n
    · intro j v hj
      rw [List.getElem?_take] at hj
      split at hj
      · rename_i hjn
        rw [List.getElem?_drop, List.getElem?_take, if_pos (by omega), List.getElem?_drop] at hj
        rw [add_none]
        simpa [World.cell?, h1, Nat.add_assoc] using hj
      · cases hj
  · cases hg

theorem run_load_cell {w : World} {a : Addr} {v : Value} (h : w.cell? a = some v) : (load a).run P w = .ok v w := by simp [load, Sem.run, h]

theorem sound_load {B : Nat} {W w : World} {m : Mp} {H : Heap} (hr : Rel P B W w m H) {t : TypeId} {sz : Nat} {ag : Bool} (hag : isAggT P t = some ag) (hsz : sizeOfT P t = some sz) {x x' v : Value} (hx : VR m x x')
    (he : q_load H x (cond ag sz 1) ag = some v) : ∃ v', (Instr.loadAt t x').run P w = .ok v' w ∧ VR m v v' := by
  unfold q_load at he
  split at he
  · rename_i a
    cases hx with
    | ptr hm =>
      cases ag with
      | true =>
        simp only [cond_true] at he
        unfold q_loadA at he
        split at he
        · rename_i cs hcs
          simp only [Option.some.injEq] at he
          subst he
          obtain ⟨cs', hl, hv, hc⟩ := hr.rd hcs hm
          refine ⟨.agg cs'.toArray, ?_, .agg _ _ (by simpa using hv.1) (fun j => by simpa using hv.2 j)⟩
          have := run_loadCells_list (P := P) w _ cs' hc
          rw [hl] at this
          simp [Instr.loadAt, Instr.sureAddr, loadVar, run_agg hag, run_size hsz, this]
        · cases he
      | false =>
        simp only [cond_false] at he
        obtain ⟨v', hv', r⟩ := hr.cell he hm
        exact ⟨v', by simp [Instr.loadAt, Instr.sureAddr, loadVar, run_agg hag, hv'], r⟩
  · cases he

theorem sound_fld {t : TypeId} {f k : Nat} {fs : Array Field} {fd : Field} (hu : P.underlying t = some (.struct fs)) (hf : fs[f]? = some fd) (hs : sizeOfT P fd.type = some (k + 1)) {m : Mp} {x x' v : Value} (hx : VR m x x')
    (he : q_fld x fd.offset = some v) (w : World) : ∃ v', (Instr.fieldAt t x' f).run P w = .ok v' w ∧ VR m v v' := by
  unfold q_fld at he
  split at he
  · cases he
    cases hx with
    | ptr hm =>
      refine ⟨_, ?_, VR.ptr hm⟩
      simp [Instr.fieldAt, run_underlying hu, hf, Instr.sureAddr, fieldPlace, run_size hs, add_none, Nat.add_assoc]
  · cases he

theorem natOf_some {v : Value} {n : Nat} (h : natOf v = some n) : ∃ k, v = .int k (.ofNat n) := by
  unfold natOf at h
  split at h
  · cases h; exact ⟨_, rfl⟩
  · cases h

theorem VR.int_eq {m : Mp} {k : IntKind} {n : Int} {v : Value} (h : VR m (.int k n) v) : v = .int k n := by cases h; rfl

theorem sound_idx {t e : TypeId} {sz : Nat} (hu : P.underlying t = some (.slice e)) (hs : sizeOfT P e = some sz) {m : Mp} {x x' i i' v : Value} (hx : VR m x x') (hi : VR m i i')
    (he : q_idx x i sz = some v) (w : World) : ∃ v', (Instr.indexAt t x' i').run P w = .ok v' w ∧ VR m v v' := by
  unfold q_idx at he
  split at he
  · rename_i a n c j hj
    obtain ⟨hlt, hv⟩ := cond_some he
    rw [blt_dec, decide_eq_true_iff] at hlt
    cases hv
    obtain ⟨k, rfl⟩ := natOf_some hj
    obtain rfl := hi.int_eq
    cases hx with
    | slK hm hc hn hxx =>
      rcases hxx with rfl | hc0
      · refine ⟨_, ?_, VR.ptr hm⟩
        simp [Instr.indexAt, run_underlying hu, run_size hs, asIntOf, add_none, hlt, Nat.add_assoc]
      · omega
    | slU hm hn hss hxx =>
      rcases hxx with rfl | hc0
      · refine ⟨_, ?_, VR.ptr hm⟩
        simp [Instr.indexAt, run_underlying hu, run_size hs, asIntOf, add_none, hlt, Nat.add_assoc]
      · omega
  · cases he

theorem sound_idxA {t e : TypeId} {sz n : Nat} (hu : P.underlying t = some (.array n e)) (hs : sizeOfT P e = some sz) {m : Mp} {x x' i i' v : Value} (hx : VR m x x') (hi : VR m i i')
    (he : q_idxA x i n sz = some v) (w : World) : ∃ v', (Instr.indexAt t x' i').run P w = .ok v' w ∧ VR m v v' := by
  unfold q_idxA at he
  split at he
  · rename_i a j hj
    obtain ⟨hlt, hv⟩ := cond_some he
    rw [blt_dec, decide_eq_true_iff] at hlt
    cases hv
    obtain ⟨k, rfl⟩ := natOf_some hj
    obtain rfl := hi.int_eq
    cases hx with
    | ptr hm =>
      refine ⟨_, ?_, VR.ptr hm⟩
      simp [Instr.indexAt, run_underlying hu, run_size hs, asIntOf, Instr.sureAddr, add_none, hlt, Nat.add_assoc]
  · cases he

theorem sound_conv {src dst : TypeId} {k0 k : IntKind} (hs : P.underlying src = some (.int k0)) (hd : P.underlying dst = some (.int k)) {m : Mp} {x x' v : Value} (hx : VR m x x') (he : q_conv k x = some v) (w : World) :
    ∃ v', (convert src dst x').run P w = .ok v' w ∧ VR m v v' := by
  unfold q_conv at he
  split at he
  · cases he
    obtain rfl := hx.int_eq
    exact ⟨_, by simp [convert, run_underlying hs, run_underlying hd, Conv.intToInt, wrapF_eq], VR.int _ _⟩
  · cases he

/-- The kind of a type that nil is asked of. -/
def tagOk (tag : Nat) : TypeDesc → Prop
  | .pointer _ => tag = 0
  | .slice _ => tag = 1
  | .map _ _ => tag = 2
  | .func _ _ _ => tag = 3
  | _ => False

theorem equalIn_nil {t : TypeId} {d : TypeDesc} (hu : P.underlying t = some d) {tag : Nat} (hd : tagOk tag d) {m : Mp} {x x' y y' : Value} (hx : VR m x x') (hy : VR m y y') {b : Bool} (he : nilcmp tag x y = some b) (w : World) (n : Nat) :
    (Op.equalIn (n + 1) t x' y').run P w = .ok b w := by
  unfold nilcmp at he
  split at he <;> cases he <;> cases hx <;> cases hy <;> cases d <;> simp [tagOk] at hd <;> simp [Op.equalIn, run_underlying hu]

theorem equal_nil {t : TypeId} {d : TypeDesc} (hu : P.underlying t = some d) {tag : Nat} (hd : tagOk tag d) {m : Mp} {x x' y y' : Value} (hx : VR m x x') (hy : VR m y y') {b : Bool} (he : nilcmp tag x y = some b) (w : World) :
    (Op.equal t x' y').run P w = .ok b w := equalIn_nil hu hd hx hy he w 9999

theorem sound_nileq {op : BinOp} {neg : Bool} (hop : op = cond neg .neq .eql) {t : TypeId} {d : TypeDesc} (hu : P.underlying t = some d) {tag : Nat} (hd : tagOk tag d)
    {m : Mp} {x x' y y' v : Value} (hx : VR m x x') (hy : VR m y y') (he : q_nileq tag neg x y = some v) (a b : Operand) (w : World) :
    ∃ v', (do eqGuard op t a b x' y'; binOp op t x' y' : Sem Value).run P w = .ok v' w ∧ VR m v v' := by
  unfold q_nileq at he
  split at he
  · rename_i r hr
    cases he
    have hq := equal_nil hu hd hx hy hr w
    refine ⟨_, ?_, VR.bool _⟩
    unfold nilcmp at hr
    cases neg <;> subst hop <;> split at hr <;> cases hx <;> cases hy <;> simp_all [eqGuard, binOp]
  · cases he

theorem sound_nilc {m : Mp} {x x' v : Value} (hx : VR m x x') (he : q_nilc x = some v) (ρ' : Operand → Value) (o : Operand) (ho : ρ' o = x') (dst : Option Tmp) (ty : TypeId) (pos : String) (after : Array Edge) (g : Option (Nat × Bool)) (w : World) :
    ∃ v', (execOp ρ' ⟨dst, .nilCheck o, ty, pos, after, g⟩).run P w = .ok (.value v') w ∧ VR m v v' := by
  subst ho
  unfold q_nilc at he
  split at he
  · cases he
    rename_i hxx
    generalize hx' : ρ' o = x' at hx
    cases hx with
    | ptr hm => exact ⟨_, by simp [execOp, hx'], VR.ptr hm⟩
  · cases he
    generalize hx' : ρ' o = x' at hx
    cases hx with
    | fn _ _ _ _ _ h k ha hb => exact ⟨_, by simp [execOp, hx'], VR.fn _ _ _ _ _ h k ha hb⟩
  · cases he

theorem sound_ext {m : Mp} {x x' v : Value} {i : Nat} (hx : VR m x x') (he : q_ext x i = some v) (w : World) : ∃ v', (Instr.extract x' i).run P w = .ok v' w ∧ VR m v v' := by
  unfold q_ext at he
  split at he
  · rename_i vs
    cases hx with
    | tuple a b h ha =>
      have hi : i < vs.size := by
        rcases Nat.lt_or_ge i vs.size with h' | h'
        · exact h'
        · rw [List.getElem?_eq_none (by simpa using h')] at he; cases he
      have hi' : i < b.size := h ▸ hi
      have e : vs[i] = v := by
        rw [List.getElem?_eq_getElem (by simpa using hi)] at he
        simpa using he
      refine ⟨b[i], by simp [Instr.extract, hi'], ?_⟩
      have := ha i hi
      simpa [Array.getD, hi, hi', e] using this
  · cases he

theorem sound_len {t e : TypeId} (hu : P.underlying t = some (.slice e)) {m : Mp} {x x' v : Value} (hx : VR m x x') (he : q_len x = some v) (ty : TypeId) (w : World) :
    ∃ v', (Builtin.len_ #[t] ty #[x']).run P w = .ok v' w ∧ VR m v v' := by
  unfold q_len at he
  split at he
  · cases he
    refine ⟨_, ?_, VR.int _ _⟩
    cases hx <;> simp [Builtin.len_, run_underlying hu, goInt]
  · cases he

theorem sound_lens {t : TypeId} (hu : P.underlying t = some .string) {m : Mp} {x x' v : Value} (hx : VR m x x') (he : q_lens x = some v) (ty : TypeId) (w : World) :
    ∃ v', (Builtin.len_ #[t] ty #[x']).run P w = .ok v' w ∧ VR m v v' := by
  unfold q_lens at he
  split at he
  · cases he
    refine ⟨_, ?_, VR.int _ _⟩
    cases hx; simp [Builtin.len_, run_underlying hu, goInt]
  · cases he

theorem sound_cap {t e : TypeId} (hu : P.underlying t = some (.slice e)) {m : Mp} {x x' v : Value} (hx : VR m x x') (he : q_cap x = some v) (ty : TypeId) (w : World) :
    ∃ v', (Builtin.cap_ #[t] ty #[x']).run P w = .ok v' w ∧ VR m v v' := by
  unfold q_cap at he
  split at he
  · obtain ⟨hc, hv⟩ := cond_some he
    rw [blt_dec, decide_eq_true_iff] at hc
    cases hv
    refine ⟨_, ?_, VR.int _ _⟩
    cases hx with
    | sl0 => simp [Builtin.cap_, run_underlying hu, goInt]
    | slK => simp [Builtin.cap_, run_underlying hu, goInt]
    | slU => exact absurd hc (Nat.lt_irrefl _)
  · cases he

/-! ### Slicing -/

def IsN : Option Value → Option Nat → Prop
  | none, none => True
  | some v, some n => ∃ k, v = .int k (.ofNat n)
  | _, _ => False

theorem run_sliceBound {k : IntKind} {i y : Nat} (h : i ≤ y) (code : BoundsCode) (w : World) : (Instr.sliceBound (.int k (i : Int)) y code).run P w = .ok i w := by
  simp [Instr.sliceBound, asIntOf, h]

theorem run_sliceBounds {n c : Nat} {lo hi mx : Option Value} {lo' hi' mx' : Option Nat} (hl : IsN lo lo') (hh : IsN hi hi') (hm : IsN mx mx') {l h m : Nat}
    (he : match mx' with
      | some M => hi' = some h ∧ l = lo'.getD 0 ∧ l ≤ h ∧ h ≤ M ∧ M ≤ c ∧ m = M
      | none => h = hi'.getD n ∧ l = lo'.getD 0 ∧ l ≤ h ∧ h ≤ c ∧ m = c) (w : World) :
    (Instr.sliceBounds true n c lo hi mx).run P w = .ok (l, h, m) w := by
  cases mx' with
  | some M =>
    obtain ⟨rfl, rfl, h1, h2, h3, rfl⟩ := he
    cases mx <;> simp only [IsN] at hm
    obtain ⟨km, rfl⟩ := hm
    cases hi <;> simp only [IsN] at hh
    obtain ⟨kh, rfl⟩ := hh
    cases lo with
    | none =>
      cases lo' <;> simp only [IsN] at hl
      simp [Instr.sliceBounds, run_sliceBound h3, run_sliceBound h2]
    | some lv =>
      cases lo' <;> simp only [IsN] at hl
      obtain ⟨kl, rfl⟩ := hl
      simp only [Option.getD_some] at h1
      simp [Instr.sliceBounds, run_sliceBound h3, run_sliceBound h2, run_sliceBound h1]
  | none =>
    obtain ⟨rfl, rfl, h1, h2, rfl⟩ := he
    cases mx <;> simp only [IsN] at hm
    cases hi with
    | none =>
      cases hi' <;> simp only [IsN] at hh
      simp only [Option.getD_none] at h1 h2
      cases lo with
      | none =>
        cases lo' <;> simp only [IsN] at hl
        simp [Instr.sliceBounds]
      | some lv =>
        cases lo' <;> simp only [IsN] at hl
        obtain ⟨kl, rfl⟩ := hl
        simp only [Option.getD_some] at h1
        simp [Instr.sliceBounds, run_sliceBound h1]
    | some hv =>
      cases hi' <;> simp only [IsN] at hh
      obtain ⟨kh, rfl⟩ := hh
      simp only [Option.getD_some] at h1 h2
      cases lo with
      | none =>
        cases lo' <;> simp only [IsN] at hl
        simp [Instr.sliceBounds, run_sliceBound h2]
      | some lv =>
        cases lo' <;> simp only [IsN] at hl
        obtain ⟨kl, rfl⟩ := hl
        simp only [Option.getD_some] at h1
        simp [Instr.sliceBounds, run_sliceBound h2, run_sliceBound h1]

theorem slcB_max {n c l h m : Nat} {lo hi : Option Nat} {M : Nat} (he : slcB n c lo hi (some M) = some (l, h, m)) : hi = some h ∧ l = lo.getD 0 ∧ l ≤ h ∧ h ≤ M ∧ m = M ∧ (if c = UNK then M ≤ n ∧ M < UNK else M ≤ c) := by
  unfold slcB at he
  cases hi with
  | none => cases he
  | some h0 =>
    obtain ⟨hb, hv⟩ := cond_some he
    simp only [Option.some.injEq, Prod.mk.injEq] at hv
    obtain ⟨rfl, rfl, rfl⟩ := hv
    simp only [Bool.and_eq_true, Nat.ble_eq, beq_iff, blt_dec] at hb
    refine ⟨rfl, rfl, hb.1.1, hb.1.2, rfl, ?_⟩
    by_cases e : c = UNK <;> simp [e] at hb ⊢ <;> omega

theorem slcB_two {n c l h m : Nat} {lo hi : Option Nat} (he : slcB n c lo hi none = some (l, h, m)) : h = hi.getD n ∧ l = lo.getD 0 ∧ l ≤ h ∧ m = c ∧ (if c = UNK then h ≤ n else h ≤ c) := by
  unfold slcB at he
  obtain ⟨hb, hv⟩ := cond_some he
  simp only [Option.some.injEq, Prod.mk.injEq] at hv
  obtain ⟨rfl, rfl, rfl⟩ := hv
  simp only [Bool.and_eq_true, Nat.ble_eq, beq_iff] at hb
  refine ⟨rfl, rfl, hb.1, rfl, ?_⟩
  by_cases e : c = UNK <;> simp [e] at hb ⊢ <;> omega

theorem run_sliceAt {t e : TypeId} {sz : Nat} (hu : P.underlying t = some (.slice e)) (hs : sizeOfT P e = some sz) {a : Option Addr} {n c : Nat} {lo hi mx : Option Value} {l h m : Nat} {w : World}
    (hb : (Instr.sliceBounds true n c lo hi mx).run P w = .ok (l, h, m) w) :
    (Instr.sliceAt t (.slice a n c) lo hi mx).run P w = .ok (.slice (if m = l then a else a.map (·.add (l * sz))) (h - l) (m - l)) w := by
  simp [Instr.sliceAt, Instr.slice, run_underlying hu, hb, run_size hs]

theorem sound_slc {B : Nat} {W w : World} {m : Mp} {H : Heap} (hr : Rel P B W w m H) {t e : TypeId} {sz : Nat} (hu : P.underlying t = some (.slice e)) (hs : sizeOfT P e = some sz) {x x' v : Value} (hx : VR m x x')
    {lo hi mx : Option Value} {lo' hi' mx' : Option Nat} (hl : IsN lo lo') (hh : IsN hi hi') (hmx : IsN mx mx') (he : q_slc H x (some lo') (some hi') (some mx') sz = some v) :
    ∃ v', (Instr.sliceAt t x' lo hi mx).run P w = .ok v' w ∧ VR m v v' := by
  unfold q_slc at he
  split at he
  · rename_i a n c lo2 hi2 mx2 e1 e2 e3
    cases e1; cases e2; cases e3
    unfold q_slcS at he
    split at he
    · rename_i l h mm hsl
      cases mx' with
      | some M =>
        obtain ⟨h1, h2, h3, h4, rfl, h6⟩ := slcB_max hsl
        cases hx with
        | slK hm hc hn hxx =>
          have hcu : c ≠ UNK := by omega
          rw [if_neg hcu] at h6
          have hmu : mm ≠ UNK := by omega
          rw [beq_iff, decide_eq_false hmu, cond_false] at he
          cases he
          have hb := run_sliceBounds (P := P) hl hh hmx (n := n) (c := c) (l := l) (h := h) (m := mm) ⟨h1, h2, h3, h4, h6, rfl⟩ w
          refine ⟨_, run_sliceAt hu hs hb, ?_⟩
          by_cases e : mm = l
          · subst e
            simp only [beq_iff, decide_true, cond_true, if_true]
            exact VR.slK hm (by omega) (by omega) (.inr (by omega))
          · simp only [beq_iff, e, decide_false, cond_false, if_false, Option.map_some]
            rcases hxx with rfl | hc0
            · rw [add_none, Nat.add_assoc]
              exact VR.slK hm (by omega) (by omega) (.inl rfl)
            · omega
        | slU hm hn hss hxx =>
          rename_i c' _
          rw [if_pos rfl] at h6
          have hmu : mm ≠ UNK := by omega
          rw [beq_iff, decide_eq_false hmu, cond_false] at he
          cases he
          have hb := run_sliceBounds (P := P) hl hh hmx (n := n) (c := c') (l := l) (h := h) (m := mm) ⟨h1, h2, h3, h4, by omega, rfl⟩ w
          refine ⟨_, run_sliceAt hu hs hb, ?_⟩
          by_cases e : mm = l
          · subst e
            simp only [beq_iff, decide_true, cond_true, if_true]
            exact VR.slK hm (by omega) (by omega) (.inr (by omega))
          · simp only [beq_iff, e, decide_false, cond_false, if_false, Option.map_some]
            rcases hxx with rfl | hc0
            · rw [add_none, Nat.add_assoc]
              exact VR.slK hm (by omega) (by omega) (.inl rfl)
            · omega
      | none =>
        obtain ⟨h1, h2, h3, rfl, h6⟩ := slcB_two hsl
        cases hx with
        | slK hm hc hn hxx =>
          have hcu : mm ≠ UNK := by omega
          rw [if_neg hcu] at h6
          rw [beq_iff, decide_eq_false hcu, cond_false] at he
          cases he
          have hb := run_sliceBounds (P := P) hl hh hmx (n := n) (c := mm) (l := l) (h := h) (m := mm) ⟨h1, h2, h3, h6, rfl⟩ w
          refine ⟨_, run_sliceAt hu hs hb, ?_⟩
          by_cases e : mm = l
          · subst e
            simp only [beq_iff, decide_true, cond_true, if_true]
            exact VR.slK hm (by omega) (by omega) (.inr (by omega))
          · simp only [beq_iff, e, decide_false, cond_false, if_false, Option.map_some]
            rcases hxx with rfl | hc0
            · rw [add_none, Nat.add_assoc]
              exact VR.slK hm (by omega) (by omega) (.inl rfl)
            · omega
        | slU hm hn hss hxx =>
          rename_i i c' x0
          rw [if_pos rfl] at h6
          rw [beq_iff, decide_eq_true rfl, cond_true] at he
          unfold q_slcU at he
          split at he
          · rename_i ro cs esz hget
            obtain ⟨hz, hv⟩ := cond_some he
            rw [beq_iff, decide_eq_true_iff] at hz
            subst hz
            cases hv
            obtain ⟨C, e', fr, g1, g2, g3, g4, g5, g6⟩ := hr.cells hget hm
            have hb := run_sliceBounds (P := P) hl hh hmx (n := n) (c := c') (l := l) (h := h) (m := c') ⟨h1, h2, h3, by omega, rfl⟩ w
            refine ⟨_, run_sliceAt hu hs hb, ?_⟩
            by_cases e : c' = l
            · subst e
              simp only [if_true]
              exact VR.slU hm (by omega) (by simp; exact Nat.le_trans (Nat.le_add_right _ _) hss) (.inr (by omega))
            · simp only [e, if_false, Option.map_some]
              rcases hxx with rfl | hc0
              · rw [add_none, Nat.add_assoc]
                refine VR.slU hm (by omega) ?_ (.inl rfl)
                rw [g3] at hss ⊢
                have : l * esz + (c' - l) * esz = c' * esz := by rw [← Nat.add_mul]; congr 1; omega
                omega
              · omega
          · cases he
    · cases he
  · rename_i lo2 hi2 mx2 e1 e2 e3
    cases e1; cases e2; cases e3
    unfold q_slc0 at he
    split at he
    case h_2 => cases he
    · rename_i z hz
      cases he
      cases hx
      obtain ⟨l, h, mm⟩ := z
      cases mx' with
      | some M =>
        obtain ⟨h1, h2, h3, h4, rfl, h6⟩ := slcB_max hz
        rw [if_neg (by decide)] at h6
        have hb := run_sliceBounds (P := P) hl hh hmx (n := 0) (c := 0) (l := l) (h := h) (m := mm) ⟨h1, h2, h3, h4, h6, rfl⟩ w
        refine ⟨_, run_sliceAt hu hs hb, ?_⟩
        have e1 : h - l = 0 := by omega
        have e2 : mm - l = 0 := by omega
        rw [e1, e2]
        simp only [Option.map_none, ite_self]
        exact VR.sl0
      | none =>
        obtain ⟨h1, h2, h3, rfl, h6⟩ := slcB_two hz
        rw [if_neg (by decide)] at h6
        have hb := run_sliceBounds (P := P) hl hh hmx (n := 0) (c := 0) (l := l) (h := h) (m := 0) ⟨h1, h2, h3, h6, rfl⟩ w
        refine ⟨_, run_sliceAt hu hs hb, ?_⟩
        have e1 : h - l = 0 := by omega
        have e2 : 0 - l = 0 := by omega
        rw [e1, e2]
        simp only [Option.map_none, ite_self]
        exact VR.sl0
  · cases he

theorem VRs.flat_map {m : Mp} : ∀ {ns : List Int} {cs : List Value}, VRs m (ns.map (Value.int .u8)) cs → cs = ns.map (Value.int .u8)
  | [], cs, h => by
    have := h.1
    cases cs with
    | nil => rfl
    | cons => simp at this
  | n :: ns, cs, h => by
    cases cs with
    | nil => have := h.1; simp at this
    | cons c cs =>
      have h0 := h.2 0
      simp at h0
      have ht : VRs m (ns.map (Value.int .u8)) cs := ⟨by have := h.1; simpa using this, fun j => by have := h.2 (j + 1); simpa using this⟩
      rw [VRs.flat_map ht, h0.int_eq]; rfl

theorem intsOf_eq : ∀ {cs : List Value} {l : List Int}, intsOf cs = some l → cs = l.map (Value.int .u8)
  | [], l, h => by simp [intsOf] at h; subst h; rfl
  | c :: cs, l, h => by
    unfold intsOf at h
    split at h
    · rename_i e; cases e
    · rename_i n l' e
      cases e
      split at h
      · rename_i r hr
        cases h
        rw [intsOf_eq hr]; rfl
      · cases h
    · cases h

theorem sound_b2s {B : Nat} {W w : World} {m : Mp} {H : Heap} (hr : Rel P B W w m H) {src dst e : TypeId} (hs : P.underlying src = some (.slice e)) (hd : P.underlying dst = some .string) (hu : P.underlying e = some (.int .u8))
    {x x' v : Value} (hx : VR m x x') (he : q_b2s H x = some v) : ∃ v', (convert src dst x').run P w = .ok v' w ∧ VR m v v' := by
  have conv : ∀ y, (∃ a n c, y = Value.slice a n c) → (convert src dst y).run P w = (Conv.bytesToString y).run P w := by
    rintro y ⟨a, n, c, rfl⟩
    simp [convert, run_underlying hs, run_underlying hd, run_underlying hu]
  unfold q_b2s at he
  split at he
  · cases he
    refine ⟨_, ?_, VR.string _⟩
    cases hx
    rw [conv _ ⟨_, _, _, rfl⟩]; rfl
  · rename_i a n c
    split at he
    · rename_i cs hcs
      split at he
      · rename_i l hl
        cases he
        have hcs' := intsOf_eq hl
        subst hcs'
        refine ⟨_, ?_, VR.string _⟩
        have key : ∀ (a' : Addr) (c' : Nat), (loadCells a' n).run P w = .ok (l.map (Value.int .u8)).toArray w → (convert src dst (.slice (some a') n c')).run P w = .ok (.string (l.foldl (fun r n => r.push (UInt8.ofNat n.toNat)) ByteArray.empty)) w := by
          intro a' c' h
          rw [conv _ ⟨_, _, _, rfl⟩, run_bytesToString w a' n c' l h]
        by_cases hn0 : n = 0
        · subst hn0
          simp only [beq_iff, decide_true, cond_true, Option.some.injEq] at hcs
          have hl0 : l = [] := by cases l <;> simp at hcs ⊢
          subst hl0
          cases hx <;> exact key _ _ (by simp [loadCells, loadCellsFrom])
        · simp only [beq_iff, hn0, decide_false, cond_false] at hcs
          have fin : ∀ (x : Nat) (i : Inf) (b o c' : Nat), m b = some i → x = i.base + o → a = ⟨b, o, none⟩ → (convert src dst (.slice (some ⟨i.blk, x, none⟩) n c')).run P w = .ok (.string (l.foldl (fun r n => r.push (UInt8.ofNat n.toNat)) ByteArray.empty)) w := by
            rintro x i b o c' hm rfl rfl
            obtain ⟨cs', hlen, hv, hc⟩ := hr.rd hcs hm
            have e := hv.flat_map
            subst e
            refine key _ _ ?_
            have := run_loadCells_list (P := P) w _ _ hc
            rw [hlen] at this
            exact this
          cases hx with
          | slK hm hc hn hxx => exact fin _ _ _ _ _ hm (hxx.resolve_right (by omega)) rfl
          | slU hm hn hss hxx => exact fin _ _ _ _ _ hm (hxx.resolve_right (by omega)) rfl
      · cases he
    · cases he
  · cases he

theorem sound_fldv {t : TypeId} {fs : Array Field} {f sz : Nat} {fd : Field} {ag : Bool} (hu : P.underlying t = some (.struct fs)) (hf : fs[f]? = some fd) (hag : isAggT P fd.type = some ag) (hs : sizeOfT P fd.type = some sz) {m : Mp} {x x' v : Value} (hx : VR m x x')
    (he : q_fldv x fd.offset (cond ag sz 1) ag = some v) (w : World) : ∃ v', (Instr.field t x' f).run P w = .ok v' w ∧ VR m v v' := by
  unfold q_fldv at he
  split at he
  · rename_i cs
    obtain ⟨hle, hv⟩ := cond_some he
    rw [Nat.ble_eq] at hle
    cases hx with
    | agg a b h ha =>
      cases ag with
      | true =>
        simp only [cond_true, Option.some.injEq] at hv hle
        subst hv
        refine ⟨_, by simp [Instr.field, run_underlying hu, hf, asAgg, part, run_agg hag, run_size hs]; rfl, .agg _ _ (by simp; omega) fun j => ?_⟩
        by_cases hj : j < sz
        · have h1 := ha (fd.offset + j)
          have hj1 : fd.offset + j < cs.size := by omega
          have hj2 : fd.offset + j < b.size := by omega
          simp only [Array.getD, hj1, hj2, dif_pos] at h1
          have e1 : j < min (fd.offset + sz) cs.size - fd.offset := by omega
          have e2 : j < min (fd.offset + sz) b.size - fd.offset := by omega
          simp [Array.getD, e1, e2]
          exact h1
        · have e1 : ¬ (j < min (fd.offset + sz) cs.size - fd.offset) := by omega
          have e2 : ¬ (j < min (fd.offset + sz) b.size - fd.offset) := by omega
          simp [Array.getD, e1, e2]
          exact VR.undef m
      | false =>
        simp only [cond_false, cond_true] at hv hle
        have hj1 : fd.offset < cs.size := by omega
        have hj2 : fd.offset < b.size := by omega
        rw [Array.getElem?_eq_getElem hj1] at hv
        cases hv
        refine ⟨b[fd.offset], by simp [Instr.field, run_underlying hu, hf, asAgg, part, run_agg hag, hj2], ?_⟩
        have h1 := ha fd.offset
        simpa [Array.getD, hj1, hj2] using h1
  · cases he

/-! ### Maps -/

theorem keyOk_isKey {kd : Option IntKind} {k : Value} (h : keyOk kd k = true) : IsKey (keyD kd) k := by
  unfold keyOk at h
  split at h
  · rw [ikF_eq, decide_eq_true_iff] at h
    exact h.symm
  · trivial
  · cases h

theorem keyOk_eq {m : Mp} {kd : Option IntKind} {k k' : Value} (h : keyOk kd k = true) (hk : VR m k k') : k' = k := by
  unfold keyOk at h
  split at h
  · exact hk.int_eq
  · cases hk; rfl
  · cases h

/-- Entries, one by one. -/
def ER (m : Mp) (es es' : List MapEntry) : Prop :=
  es'.length = es.length ∧ ∀ (k : Nat) (e : MapEntry), es[k]? = some e → ∃ e', es'[k]? = some e' ∧ e'.key = e.key ∧ e'.born = e.born ∧ flat 0 e.key = true ∧ VR m e.val e'.val

theorem ER.tail {m : Mp} {e e' : MapEntry} {es es' : List MapEntry} (h : ER m (e :: es) (e' :: es')) : ER m es es' :=
  ⟨by have := h.1; simpa using this, fun k x hx => by have := h.2 (k + 1) x (by simpa using hx); simpa using this⟩

theorem findNow_rel {m : Mp} {d : TypeDesc} {k : Value} : ∀ {es es' : List MapEntry} (i : Nat), ER m es es' →
    (∀ j v, Instr.findNow d k es i = some (some (j, v)) → ∃ v', Instr.findNow d k es' i = some (some (j, v')) ∧ VR m v v') ∧
    (Instr.findNow d k es i = some none → Instr.findNow d k es' i = some none)
  | [], [], i, _ => by simp [Instr.findNow]
  | [], _ :: _, _, h => by have := h.1; simp at this
  | _ :: _, [], _, h => by have := h.1; simp at this
  | e :: es, e' :: es', i, h => by
    obtain ⟨e2, h1, h2, _, _, h5⟩ := h.2 0 e rfl
    simp only [List.getElem?_cons_zero, Option.some.injEq] at h1
    subst h1
    have ih := findNow_rel (d := d) (k := k) (i + 1) h.tail
    simp only [Instr.findNow, h2]
    cases Instr.sameNow d k e.key with
    | none => simp
    | some r =>
      cases r with
      | true =>
        refine ⟨fun j v hj => ?_, by simp⟩
        simp only [Option.some.injEq, Prod.mk.injEq] at hj
        obtain ⟨rfl, rfl⟩ := hj
        exact ⟨_, rfl, h5⟩
      | false => exact ih

theorem Rel.map {B : Nat} {W w : World} {m : Mp} {H : Heap} (h : Rel P B W w m H) {id : Nat} {i : Inf} {es : List MapEntry} {clock : Nat} (hg : H.get id = some (.map es clock)) (hm : m id = some i) :
    ∃ es' : Array MapEntry, w.heap[i.blk]? = some (.map es' clock) ∧ ER m es es'.toList := by
  obtain ⟨es', h1, h2, h3⟩ := h.obj id _ i hg hm
  exact ⟨es', h1, by simpa using h2, fun k e he => by
    obtain ⟨e', g1, g2⟩ := h3 k e he
    exact ⟨e', by simpa using g1, g2⟩⟩

theorem run_getMap {w : World} {r : Nat} {es : Array MapEntry} {clock : Nat} (hb : w.heap[r]? = some (.map es clock)) : (getObj r).run P w = .ok (.map es clock) w := by simp [getObj, Sem.run, hb]

theorem zeroV_run {t : TypeId} {z : Value} (h : zeroV P t = some z) (w : World) : (zeroValue t).run P w = .ok z w ∧ ∀ m, VR m z z := by
  unfold zeroV at h
  split at h
  · rename_i i hi
    split at h
    · rename_i z0 hz
      obtain ⟨hf, e⟩ := cond_some h
      cases e
      exact ⟨by simp [zeroValue, typeInfo, hi, hz], fun m => VR.refl_flat hf⟩
    · cases h
  · cases h

theorem VR.pair {m : Mp} {v v' : Value} (h : VR m v v') (b : Bool) : VR m (.tuple #[v, .bool b]) (.tuple #[v', .bool b]) := by
  refine .tuple _ _ rfl fun j hj => ?_
  match j, hj with
  | 0, _ => simpa using h
  | 1, _ => simpa using VR.bool b

theorem sound_look {B : Nat} {W w : World} {m : Mp} {H : Heap} (hr : Rel P B W w m H) {t kt e : TypeId} {kd : Option IntKind} {z : Value} {ok : Bool} (hu : P.underlying t = some (.map kt e)) (hk : P.underlying kt = some (keyD kd)) (hz : zeroV P e = some z)
    {x x' y y' v : Value} (hx : VR m x x') (hy : VR m y y') (he : q_look H kd x y z ok = some v) : ∃ v', (Instr.lookup t x' y' ok).run P w = .ok v' w ∧ VR m v v' := by
  obtain ⟨hko, he⟩ := cond_some he
  have hyy := keyOk_eq hko hy
  subst hyy
  obtain ⟨zr, zv⟩ := zeroV_run hz w
  have ck := fun b => run_checkKey (w := w) hk (keyOk_isKey hko) b 9999
  split at he
  · cases he
    cases hx
    have fk := run_findKey (w := w) (kt := kt) (k := y') (l := []) (a := none) hk rfl
    cases ok
    · exact ⟨_, by simp [Instr.lookup, run_underlying hu, ck, fk, zr], zv m⟩
    · exact ⟨_, by simp [Instr.lookup, run_underlying hu, ck, fk, zr], (zv m).pair false⟩
  · rename_i r
    unfold q_lookM at he
    split at he
    · rename_i es clock hg
      cases hx with
      | map hm =>
        obtain ⟨es', hb, er⟩ := hr.map hg hm
        have go := run_getMap (P := P) hb
        have rel := findNow_rel (d := keyD kd) (k := y') 0 er
        cases hf : Instr.findNow (keyD kd) y' es 0 with
        | none => rw [hf] at he; cases he
        | some a =>
          rw [hf] at he
          cases a with
          | none =>
            have fk := run_findKey (w := w) hk (rel.2 hf)
            cases he
            cases ok
            · exact ⟨_, by simp [Instr.lookup, run_underlying hu, go, ck, fk, zr], zv m⟩
            · exact ⟨_, by simp [Instr.lookup, run_underlying hu, go, ck, fk, zr], (zv m).pair false⟩
          | some p =>
            obtain ⟨j, v0⟩ := p
            obtain ⟨v1, h1, r1⟩ := rel.1 j v0 hf
            have fk := run_findKey (w := w) hk h1
            cases he
            cases ok
            · exact ⟨_, by simp [Instr.lookup, run_underlying hu, go, ck, fk], r1⟩
            · exact ⟨_, by simp [Instr.lookup, run_underlying hu, go, ck, fk], r1.pair true⟩
    · cases he
  · cases he

/-! ### Structs and literals laid out -/

theorem VRs.setAll {m : Mp} : ∀ {l l' a c : List Value} (o : Nat), VRs m a c → VRs m l l' → VRs m (Ev.setAll a o l) (Ev.setAll c o l')
  | [], [], _, _, _, h, _ => h
  | [], _ :: _, _, _, _, _, k => by have := k.1; simp at this
  | _ :: _, [], _, _, _, _, k => by have := k.1; simp at this
  | x :: l, y :: l', a, c, o, h, k => by
    have h0 : VR m x y := by have := k.2 0; simpa using this
    have ht : VRs m l l' := ⟨by have := k.1; simpa using this, fun j => by have := k.2 (j + 1); simpa using this⟩
    exact VRs.setAll (o + 1) (h.set o h0) ht

theorem setAll_length : ∀ (l cs : List Value) (o : Nat), (setAll cs o l).length = cs.length
  | [], _, _ => rfl
  | _ :: l, cs, o => by rw [setAll, setAll_length l]; simp

theorem foldl_zipIdx (off : Nat) : ∀ (l : List Value) (k : Nat) (C : Array Value), ((l.zipIdx k).foldl (fun cs (x : Value × Nat) => cs.setIfInBounds (off + x.2) x.1) C).toList = setAll C.toList (off + k) l
  | [], _, _ => rfl
  | v :: l, k, C => by
    rw [List.zipIdx_cons, List.foldl_cons, foldl_zipIdx off l (k + 1) _]
    simp [setAll, Nat.add_assoc]

/-- Parts, one by one. -/
inductive PartsR (m : Mp) (place : Nat → Option (Nat × Nat)) : List (Nat × Nat × Value) → List (Nat × Value) → Prop where
  | nil : PartsR m place [] []
  | cons {i o s : Nat} {v v' : Value} {l : List (Nat × Nat × Value)} {l' : List (Nat × Value)} (hp : place i = some (o, s)) (hv : VR m v v') (h : PartsR m place l l') : PartsR m place ((o, s, v) :: l) ((i, v') :: l')

theorem fill_rel {m : Mp} {place : Nat → Option (Nat × Nat)} {l : List (Nat × Nat × Value)} {l' : List (Nat × Value)} (h : PartsR m place l l') : ∀ {cs r : List Value} {C : Array Value}, VRs m cs C.toList → fillL cs l = some r →
    ∃ R : Array Value, Instr.fill place C l' = some R ∧ VRs m r R.toList := by
  induction h with
  | nil => intro cs r C hc he; simp only [fillL, Option.some.injEq] at he; subst he; exact ⟨C, rfl, hc⟩
  | @cons i o s v v' l l' hp hv _ ih =>
    intro cs r C hc he
    unfold fillL at he
    obtain ⟨hb, hf⟩ := cond_some he
    simp only [Bool.and_eq_true, beq_iff, decide_eq_true_eq, Nat.ble_eq] at hb
    have hlen : cs.length = C.size := by simpa using hc.1
    have hcs := hv.cells_size
    have e := foldl_zipIdx o v'.cells.toList 0 C
    obtain ⟨R, h1, h2⟩ := ih (C := v'.cells.zipIdx.foldl (fun cs (x : Value × Nat) => cs.setIfInBounds (o + x.2) x.1) C) (by
      rw [← Array.foldl_toList, Array.toList_zipIdx, e]
      exact VRs.setAll _ hc hv.cells) hf
    refine ⟨R, ?_, h2⟩
    simp only [Instr.fill, hp]
    have hc1 : ¬ (v'.cells.size ≠ s) := by simp [← hcs, hb.1]
    have hc2 : ¬ (o + v'.cells.size > C.size) := by rw [← hcs, hb.1, ← hlen]; omega
    rw [if_neg (by simp [hc1, hc2])]
    exact h1

theorem zeroT_run {t : TypeId} {zs : List Value} (h : zeroT P t = some zs) (w : World) : ∃ z, (zeroValue t).run P w = .ok z w ∧ z.cells.toList = zs ∧ ∀ m, VRs m zs zs := by
  unfold zeroT at h
  split at h
  · rename_i i hi
    split at h
    · rename_i z0 hz
      obtain ⟨hf, e⟩ := cond_some h
      cases e
      refine ⟨z0, by simp [zeroValue, typeInfo, hi, hz], rfl, fun m => VRs.of_get rfl fun j v hv => ⟨v, hv, ?_⟩⟩
      rw [List.all_eq_true] at hf
      exact VR.refl_flat (hf v (List.mem_of_getElem? hv))
    · cases h
  · cases h

theorem mapM_sizes : ∀ {fs : List Field} {pl : List (Nat × Nat)}, (fs.mapM fun f => (sizeOfT P f.type).map fun s => (f.offset, s)) = some pl → ∀ w,
    (fs.mapM fun f => (do pure (f.offset, ← sizeOf f.type) : Sem (Nat × Nat))).run P w = .ok pl w
  | [], pl, h, w => by simp at h; subst h; simp
  | f :: fs, pl, h, w => by
    rw [List.mapM_cons] at h
    cases hs : sizeOfT P f.type with
    | none => simp [hs] at h
    | some s =>
      cases hr : (fs.mapM fun f => (sizeOfT P f.type).map fun s => (f.offset, s)) with
      | none => simp [hs, hr] at h
      | some pl' =>
        simp [hs, hr] at h
        subst h
        have ih := mapM_sizes hr w
        simp only [List.mapM_cons, Sem.run_bind, run_size hs, Result.andThen_ok, Sem.run_pure]
        rw [ih]; rfl

theorem partsR_struct {m : Mp} {d : Nat} {ρ : Od → Value} {ρ' : Operand → Value} {pl : List (Nat × Nat)} : ∀ {parts : List (Nat × Operand)} {ps : List (Nat × Nat × Od)},
    (parts.mapM fun (x : Nat × Operand) => (pl[x.1]?).map fun p => (p.1, p.2, od d x.2)) = some ps → (∀ x ∈ parts.map (·.2), VR m (ρ (od d x)) (ρ' x)) →
    PartsR m (pl.toArray[·]?) (ps.map fun (x : Nat × Nat × Od) => (x.1, x.2.1, ρ x.2.2)) (parts.map fun (x : Nat × Operand) => (x.1, ρ' x.2))
  | [], ps, h, _ => by simp at h; subst h; exact .nil
  | (i, x) :: parts, ps, h, hv => by
    rw [List.mapM_cons] at h
    cases hp : pl[i]? with
    | none => simp [hp] at h
    | some p =>
      cases hr : (parts.mapM fun (x : Nat × Operand) => (pl[x.1]?).map fun p => (p.1, p.2, od d x.2)) with
      | none => simp [hp, hr] at h
      | some ps' =>
        simp [hp, hr] at h
        subst h
        exact .cons (by simpa using hp) (hv x (by simp)) (partsR_struct hr fun y hy => hv y (by simp at hy ⊢; exact .inr hy))

theorem partsR_array {m : Mp} {d s : Nat} {ρ : Od → Value} {ρ' : Operand → Value} : ∀ {parts : List (Nat × Operand)}, (∀ x ∈ parts.map (·.2), VR m (ρ (od d x)) (ρ' x)) →
    PartsR m (fun i => some (i * s, s)) (parts.map fun (x : Nat × Operand) => (x.1 * s, s, ρ (od d x.2))) (parts.map fun (x : Nat × Operand) => (x.1, ρ' x.2))
  | [], _ => .nil
  | (i, x) :: parts, hv => .cons rfl (hv x (by simp)) (partsR_array fun y hy => hv y (by simp at hy ⊢; exact .inr hy))

theorem sound_build_struct {m : Mp} {d : Nat} {ρ : Od → Value} {ρ' : Operand → Value} {t : TypeId} {fs : Array Field} {zs : List Value} {pl : List (Nat × Nat)} {parts : Array (Nat × Operand)} {ps : List (Nat × Nat × Od)} {v : Value}
    (hu : P.underlying t = some (.struct fs)) (hz : zeroT P t = some zs) (hpl : (fs.toList.mapM fun f => (sizeOfT P f.type).map fun s => (f.offset, s)) = some pl)
    (hps : (parts.toList.mapM fun (x : Nat × Operand) => (pl[x.1]?).map fun p => (p.1, p.2, od d x.2)) = some ps) (hv : ∀ x ∈ parts.toList.map (·.2), VR m (ρ (od d x)) (ρ' x))
    (he : q_build ρ zs ps = some v) (w : World) : ∃ v', (Instr.build t (parts.map fun (i, x) => (i, ρ' x))).run P w = .ok v' w ∧ VR m v v' := by
  unfold q_build at he
  split at he
  · rename_i cs hcs
    cases he
    obtain ⟨z, hzr, hze, hzv⟩ := zeroT_run hz w
    have hzz : VRs m zs z.cells.toList := by rw [hze]; exact hzv m
    obtain ⟨R, h1, h2⟩ := fill_rel (partsR_struct hps hv) hzz hcs
    have hm := mapM_sizes hpl w
    refine ⟨.agg R, ?_, .agg _ _ (by simpa using h2.1) (fun j => by simpa using h2.2 j)⟩
    have hmap : (parts.map fun (x : Nat × Operand) => (x.1, ρ' x.2)).toList = parts.toList.map fun (x : Nat × Operand) => (x.1, ρ' x.2) := by simp
    simp only [Instr.build, Sem.run_bind, hzr, Result.andThen_ok, run_underlying hu, Array.mapM_eq_mapM_toList, Sem.run_map, hm, hmap, h1, Sem.run_pure]
  · cases he

theorem sound_build_array {m : Mp} {d : Nat} {ρ : Od → Value} {ρ' : Operand → Value} {t e : TypeId} {n s : Nat} {zs : List Value} {parts : Array (Nat × Operand)} {v : Value}
    (hu : P.underlying t = some (.array n e)) (hz : zeroT P t = some zs) (hs : sizeOfT P e = some s) (hv : ∀ x ∈ parts.toList.map (·.2), VR m (ρ (od d x)) (ρ' x))
    (he : q_build ρ zs (parts.toList.map fun (x : Nat × Operand) => (x.1 * s, s, od d x.2)) = some v) (w : World) : ∃ v', (Instr.build t (parts.map fun (i, x) => (i, ρ' x))).run P w = .ok v' w ∧ VR m v v' := by
  unfold q_build at he
  split at he
  · rename_i cs hcs
    cases he
    obtain ⟨z, hzr, hze, hzv⟩ := zeroT_run hz w
    have hzz : VRs m zs z.cells.toList := by rw [hze]; exact hzv m
    rw [List.map_map] at hcs
    obtain ⟨R, h1, h2⟩ := fill_rel (partsR_array (s := s) hv) hzz hcs
    refine ⟨.agg R, ?_, .agg _ _ (by simpa using h2.1) (fun j => by simpa using h2.2 j)⟩
    have hmap : (parts.map fun (x : Nat × Operand) => (x.1, ρ' x.2)).toList = parts.toList.map fun (x : Nat × Operand) => (x.1, ρ' x.2) := by simp
    simp only [Instr.build, Sem.run_bind, hzr, Result.andThen_ok, run_underlying hu, run_size hs, hmap, h1, Sem.run_pure]
  · cases he

end Go.Ev
