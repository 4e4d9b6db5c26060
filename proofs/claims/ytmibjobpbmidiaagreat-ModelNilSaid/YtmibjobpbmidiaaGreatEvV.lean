/-
  A machine-free evaluator for calls ('Go.Ev'): the machine's operations that write. Own work.
-/
import Derived.Test.YtmibjobpbmidiaaGreatEvU
namespace Go.Ev
set_option linter.unusedSimpArgs false
set_option linter.unusedVariables false
open Go Go.RowKit Go.MapKept
variable {P : Program}

theorem splice_drop {L vs : List Value} {base n o : Nat} (h1 : base + n ≤ L.length) (h2 : o + vs.length ≤ n) :
    ((L.take (base + o) ++ vs ++ L.drop (base + o + vs.length)).drop base).take n = ((L.drop base).take n).take o ++ vs ++ ((L.drop base).take n).drop (o + vs.length) := by
  apply List.ext_getElem?
  intro j
  rw [List.getElem?_take, List.getElem?_drop]
  have t1 : (L.take (base + o)).length = base + o := by rw [List.length_take]; omega
  have t2 : (((L.drop base).take n).take o).length = o := by simp only [List.length_take, List.length_drop]; omega
  by_cases hj : j < n
  · rw [if_pos hj]
    rcases Nat.lt_or_ge j o with a | a
    · rw [List.getElem?_append_left (by rw [List.length_append]; omega), List.getElem?_append_left (by omega), List.getElem?_append_left (by rw [List.length_append]; omega), List.getElem?_append_left (by omega)]
      simp only [List.getElem?_take, List.getElem?_drop]
      simp [a, hj, show base + j < base + o by omega]
    · rcases Nat.lt_or_ge j (o + vs.length) with b | b
      · rw [List.getElem?_append_left (by rw [List.length_append]; omega), List.getElem?_append_right (by omega), List.getElem?_append_left (by rw [List.length_append]; omega), List.getElem?_append_right (by omega), t1, t2]
        congr 1; omega
      · rw [List.getElem?_append_right (by rw [List.length_append]; omega), List.getElem?_append_right (by rw [List.length_append]; omega), List.length_append, List.length_append, t1, t2]
        simp only [List.getElem?_drop, List.getElem?_take]
        rw [if_pos (by omega)]
        congr 1; omega
  · rw [if_neg hj]
    rw [List.getElem?_append_right (by rw [List.length_append]; omega), List.length_append, t2]
    simp only [List.getElem?_drop, List.getElem?_take]
    rw [if_neg (by omega)]

theorem below_setRow {B : Nat} {W w : World} {g : Nat} {cs : Array Value} (h : Below B W w) (hg : B ≤ g) : Below B W (w.setRow g cs) := by
  refine h.trans ⟨rfl, rfl, rfl, by simp [World.setRow], fun k hk => ?_⟩
  simp only [World.setRow, Array.getElem?_modify]
  rw [if_neg (by omega)]

theorem heap_setRow_other {w : World} {g k : Nat} {cs : Array Value} (h : k ≠ g) : (w.setRow g cs).heap[k]? = w.heap[k]? := by
  simp only [World.setRow, Array.getElem?_modify]
  rw [if_neg (fun e => h e.symm)]

theorem Rel.wr {B : Nat} {W w : World} {m : Mp} {H H' : Heap} (hr : Rel P B W w m H) {b o : Nat} {i : Inf} {vs vs' : List Value} (hg : wrCells H b o vs = some H') (hm : m b = some i) (hv : VRs m vs vs') :
    ∃ w', (storeCells ⟨i.blk, i.base + o, none⟩ vs').run P w = .ok () w' ∧ Rel P B W w' m H' ∧ H'.next = H.next := by
  unfold wrCells at hg
  split at hg
  · rename_i c esz hc
    obtain ⟨hb, he⟩ := cond_some hg
    cases he
    simp only [Bool.and_eq_true, Nat.ble_eq] at hb
    obtain ⟨C, e, fr, h1, h2, h3, h4, h5, h6⟩ := hr.cells hc hm
    obtain rfl := h6 rfl
    have hlen : vs'.length = vs.length := hv.1.symm
    have hone : ∀ v ∈ vs', v.oneCell' = true := by
      intro v hvm
      obtain ⟨j, hj⟩ := List.mem_iff_getElem?.1 hvm
      have hj' : j < vs.length := by
        rcases Nat.lt_or_ge j vs'.length with h | h
        · omega
        · rw [List.getElem?_eq_none h] at hj; cases hj
      obtain ⟨v2, e2, r2⟩ := hv.get (List.getElem?_eq_getElem hj')
      rw [hj] at e2; cases e2
      have := List.all_eq_true.1 hb.2 vs[j] (List.getElem_mem hj')
      rw [← r2.oneCell]; exact this
    have hst := run_storeCells_at (P := P) i.blk (i.base + o) e vs' 0 C w h1 (by omega) hone
    rw [Nat.add_zero] at hst
    refine ⟨_, hst, ?_, rfl⟩
    refine hr.write hc hm rfl rfl (below_setRow hr.below (hr.own b _ i hc hm rfl)) (by simp [World.setRow]) (fun k hk => heap_setRow_other hk) ?_
    refine ⟨_, e, (0, 0), setRow_heap w i.blk C _ e (0, 0) h1, ?_, h3, ?_, ?_, fun _ => rfl⟩
    · simp only [List.size_toArray, List.length_append, List.length_take, List.length_drop, Array.length_toList]; omega
    · simp only [List.size_toArray, List.length_append, List.length_take, List.length_drop, Array.length_toList]
      show i.base + c.n ≤ _
      omega
    · rw [Cs.toL_wr c hb.1]
      show VRs m _ ((List.drop i.base _).take c.n)
      rw [List.toList_toArray, splice_drop (by rw [Array.length_toList]; exact h4) (by omega), hlen]
      exact ((h5.take o).append hv).append (h5.drop _)
  · cases hg

theorem Sub.fresh_refl (m : Mp) (n : Nat) : ∀ id, id < n → m id = m id := fun _ _ => rfl

/-- What an operation that writes, or a call, comes to. -/
def Does (P : Program) (B : Nat) (W : World) (m : Mp) (H : Heap) (s : Sem Next) (w : World) (v : Value) (H' : Heap) : Prop :=
  ∃ (m' : Mp) (w' : World) (r : Next) (v' : Value), s.run P w = .ok r w' ∧ (r = .value v' ∨ (r = .skip ∧ v' = undef)) ∧ VR m' v v' ∧ Rel P B W w' m' H' ∧ Sub m m' ∧ (∀ id, id < H.next → m' id = m id) ∧ H.next ≤ H'.next

theorem sound_store {B : Nat} {W w : World} {m : Mp} {H H' : Heap} (hr : Rel P B W w m H) {t : TypeId} {sz : Nat} (hs : sizeOfT P t = some sz) {a a' x x' v : Value} (ha : VR m a a') (hx : VR m x x') (he : w_store H a x sz = some (v, H')) :
    v = undef ∧ H'.next = H.next ∧ ∃ w', (Instr.storeAt t a' x').run P w = .ok () w' ∧ Rel P B W w' m H' := by
  unfold w_store at he
  split at he
  · rename_i ad
    obtain ⟨hz, he⟩ := cond_some he
    rw [beq_iff, decide_eq_true_iff] at hz
    cases hw : wrCells H ad.block ad.off x.cells.toList with
    | none => simp [hw] at he
    | some H2 =>
      simp only [hw, Option.map_some, Option.some.injEq, Prod.mk.injEq] at he
      obtain ⟨rfl, rfl⟩ := he
      cases ha with
      | ptr hm =>
        obtain ⟨w', h1, h2, h3⟩ := hr.wr hw hm hx.cells
        refine ⟨rfl, h3, w', ?_, h2⟩
        have hsz : x'.cells.size = sz := by rw [← hx.cells_size]; exact hz
        simp [Instr.storeAt, Instr.sureAddr, storeVar, run_size hs, hsz, h1]
  · cases he

/-! ### Sources -/

theorem sound_lenV {m : Mp} {x x' : Value} {k : Nat} (hx : VR m x x') (h : lenV x = some k) (w : World) : (Builtin.lenOf x').run P w = .ok k w := by
  unfold lenV at h
  split at h <;> cases h <;> cases hx <;> simp [Builtin.lenOf]

theorem cell_of_heap {w w2 : World} (h : w2.heap = w.heap) (a : Addr) : w2.cell? a = w.cell? a := by simp [World.cell?, h]

theorem sound_src {B : Nat} {W w : World} {m : Mp} {H : Heap} (hr : Rel P B W w m H) {sz n k : Nat} {x x' : Value} {cs : List Value} (hx : VR m x x') (hk : lenV x = some k) (hn : n ≤ k) (h : srcCells H sz n x = some cs) :
    ∃ cs' : List Value, VRs m cs cs' ∧ cs'.length = n * sz ∧ ∀ w2 : World, w2.heap = w.heap → (Builtin.firstCells sz n x').run P w2 = .ok cs'.toArray w2 := by
  unfold srcCells at h
  split at h
  · rename_i a l c
    by_cases h0 : n * sz = 0
    · simp only [h0, beq_iff, decide_true, cond_true, Option.some.injEq] at h
      subst h
      refine ⟨[], VRs.nil m, by simp [h0], fun w2 _ => ?_⟩
      cases hx <;> simp [Builtin.firstCells, h0, loadCells, loadCellsFrom]
    · simp only [h0, beq_iff, decide_false, cond_false] at h
      simp only [lenV, Option.some.injEq] at hk
      have hl : l ≠ 0 := by
        intro e
        have : n = 0 := by omega
        exact h0 (by simp [this])
      have fin : ∀ (i : Inf) (b o x0 c' : Nat), m b = some i → x0 = i.base + o → a = ⟨b, o, none⟩ → ∃ cs' : List Value, VRs m cs cs' ∧ cs'.length = n * sz ∧ ∀ w2 : World, w2.heap = w.heap → (Builtin.firstCells sz n (.slice (some ⟨i.blk, x0, none⟩) l c')).run P w2 = .ok cs'.toArray w2 := by
        rintro i b o x0 c' hm rfl rfl
        obtain ⟨cs', h1, h2, h3⟩ := hr.rd h hm
        refine ⟨cs', h2, h1, fun w2 hw => ?_⟩
        have := run_loadCells_list (P := P) w2 _ cs' (fun j v hj => by rw [cell_of_heap hw]; exact h3 j v hj)
        rw [h1] at this
        simpa [Builtin.firstCells] using this
      cases hx with
      | slK hm hc hn' hxx => exact fin _ _ _ _ _ hm (hxx.resolve_right (by omega)) rfl
      | slU hm hn' hss hxx => exact fin _ _ _ _ _ hm (hxx.resolve_right (by omega)) rfl
  · cases h
    simp only [lenV, Option.some.injEq] at hk
    cases hx
    have : n = 0 := by omega
    exact ⟨[], VRs.nil m, by simp [this], fun w2 _ => by simp [Builtin.firstCells]⟩
  · rename_i s
    obtain ⟨h1, h2⟩ := cond_some h
    rw [beq_iff, decide_eq_true_iff] at h1
    cases h2
    cases hx
    simp only [lenV, Option.some.injEq] at hk
    refine ⟨(strCellsV s).take n, VRs.of_get rfl fun j v hv => ⟨v, hv, ?_⟩, ?_, fun w2 _ => ?_⟩
    · have hv' := List.mem_of_getElem? hv
      have hv2 : v ∈ strCellsV s := List.mem_of_mem_take hv'
      unfold strCellsV at hv2
      obtain ⟨b, _, rfl⟩ := List.mem_map.1 hv2
      exact .int _ _
    · rw [List.length_take, h1, Nat.mul_one]
      have : (strCellsV s).length = s.size := by simp [strCellsV]
      omega
    · simp only [Builtin.firstCells, Sem.run_pure]
      congr 1
      apply Array.ext'
      simp [strCellsV, List.map_take]
  · cases h

/-! ### Appending -/

/-- How 'append' goes, its types resolved. -/
structure AppT (P : Program) (ts : Array TypeId) (e : TypeId) (i : TypeInfo) : Prop where
  ht : ∃ t, ts[0]? = some t ∧ P.underlying t = some (.slice e)
  hu : ∃ u d, ts[1]? = some u ∧ P.underlying u = some d ∧ ((∃ e', d = .slice e') ∨ d = .string)
  hi : P.info? e = some i
  hz : ∃ z, i.zero = some z ∧ z.cells.size = i.size

theorem run_app_fits {ts : Array TypeId} {ty e : TypeId} {i : TypeInfo} (T : AppT P ts e i) {base : Option Addr} {n c k : Nat} {x' : Value} {w w' : World} {new : Array Value} (hl : (Builtin.lenOf x').run P w = .ok k w) (hfit : n + k ≤ c)
    (hn : (Builtin.firstCells i.size k x').run P w = .ok new w) (hst : match base with | some a => (storeCells (a.add (n * i.size)) new.toList).run P w = .ok () w' | none => w' = w) :
    (Builtin.append_ ts ty #[.slice base n c, x']).run P w = .ok (.slice base (n + k) c) w' := by
  obtain ⟨t, ht, hu⟩ := T.ht
  obtain ⟨u, d, hu1, hu2, hd⟩ := T.hu
  rcases hd with ⟨e', rfl⟩ | rfl
  all_goals
    cases base with
    | none => subst hst; simp [Builtin.append_, ht, hu1, run_underlying hu, run_underlying hu2, sizeOf, typeInfo, T.hi, hl, hfit, hn]
    | some a => simp [Builtin.append_, ht, hu1, run_underlying hu, run_underlying hu2, sizeOf, typeInfo, T.hi, hl, hfit, hn, hst]

theorem run_app_grows {ts : Array TypeId} {ty e : TypeId} {i : TypeInfo} (T : AppT P ts e i) {base : Option Addr} {n c k : Nat} {x' : Value} {w : World} {old new : Array Value} (hl : (Builtin.lenOf x').run P w = .ok k w) (hfit : c < n + k)
    (hb : 0 < i.bytes) (hroom : (n + k) * i.bytes ≤ 140737488355328) (ho : (Builtin.firstCells i.size n (.slice base n c)).run P w.drew = .ok old w.drew) (hn : (Builtin.firstCells i.size k x').run P w.drew = .ok new w.drew) :
    ∃ (newCap : Nat) (rest : Array Value), n + k ≤ newCap ∧ rest.size = (newCap - (n + k)) * i.size ∧
      (Builtin.append_ ts ty #[.slice base n c, x']).run P w = .ok (.slice (some ⟨w.heap.size, 0, none⟩) (n + k) newCap) (w.drew.alloc (.cells (old ++ new ++ rest) e)) := by
  obtain ⟨t, ht, hu⟩ := T.ht
  obtain ⟨u, d, hu1, hu2, hd⟩ := T.hu
  obtain ⟨z, hz, hzs⟩ := T.hz
  have h1 : ¬ (n + k ≤ c) := by omega
  have h2 : ¬ (281474976710656 < Builtin.nextslicecap (n + k) c * i.bytes) := by
    have := growslice_fits hfit hroom
    omega
  have h3 : ¬ (i.bytes = 0) := by omega
  refine ⟨(Question.appendCap (n + k) c e).cut (w.tape w.drawn (.appendCap (n + k) c e)), Builtin.zeroCells z.cells ((Question.appendCap (n + k) c e).cut (w.tape w.drawn (.appendCap (n + k) c e)) - (n + k)), ?_, ?_, ?_⟩
  · simp [Question.cut]
  · simp [Builtin.zeroCells, hzs]
  · rcases hd with ⟨e', rfl⟩ | rfl <;> simp [Builtin.append_, ht, hu1, run_underlying hu, run_underlying hu2, sizeOf, typeInfo, T.hi, hl, h1, h2, h3, Question.forced, ho, hn, zeroValue, hz, newRow]

theorem first_none {m : Mp} {x x' : Value} {k : Nat} (hx : VR m x x') (hk : lenV x = some k) (sz : Nat) (w : World) : (Builtin.firstCells sz 0 x').run P w = .ok #[] w := by
  unfold lenV at hk
  split at hk <;> cases hk <;> cases hx <;> simp [Builtin.firstCells, loadCells, loadCellsFrom]

/-- A new block of which the first cells are told. -/
theorem oRel_part {m : Mp} {w : World} {l : List Value} {C : Array Value} (e : TypeId) (esz : Nat) (h : VRs m l (C.toList.take l.length)) (hlen : l.length ≤ C.size) {id : Nat} (hid : m id = none) {D : Cs} (hD : D.toL = l) :
    ORel P (put m id ⟨w.heap.size, 0, C.size, esz⟩) (w.alloc (.cells C e)) ⟨w.heap.size, 0, C.size, esz⟩ (.cells false D esz) := by
  have hn : D.n = l.length := by rw [← D.length_toL, hD]
  refine ⟨C, e, (0, 0), heap_alloc_new w _, rfl, rfl, ?_, ?_, fun _ => rfl⟩
  · show 0 + D.n ≤ C.size
    omega
  · rw [hD, hn, List.drop_zero]
    exact h.mono (Sub.put hid)

/-- A block that no number stands for may be written. -/
theorem Rel.scribble {B : Nat} {W w : World} {m : Mp} {H : Heap} (h : Rel P B W w m H) {g : Nat} (cs : Array Value) (hg : B ≤ g) (hno : ∀ id o j, H.get id = some o → m id = some j → j.blk ≠ g) : Rel P B W (w.setRow g cs) m H :=
  ⟨below_setRow h.below hg, by simpa [World.setRow] using h.bsize, fun id o j a b => (h.obj id o j a b).of_block (heap_setRow_other (hno id o j a b)), h.own, h.roo, h.inj,
    fun id j a => by have := h.fresh id j a; exact ⟨this.1, by simpa [World.setRow] using this.2⟩, h.lim, h.ok⟩

/-- A block of the world that no number stood for. -/
theorem Rel.adopt {B : Nat} {W w : World} {m : Mp} {H : Heap} (h : Rel P B W w m H) {o : AObj} {i : Inf} (hl : H.next < LIM) (hi : i.blk < w.heap.size) (hB : B ≤ i.blk) (hrw : o.rw = true)
    (hno : ∀ id o j, H.get id = some o → m id = some j → j.blk ≠ i.blk) (ho : ORel P (put m H.next i) w i o) : Rel P B W w (put m H.next i) (H.new o) := by
  have hid : m H.next = none := by
    cases e : m H.next with
    | none => rfl
    | some j => have := (h.fresh _ _ e).1; omega
  have s : Sub m (put m H.next i) := Sub.put hid
  have lt : ∀ k j, put m H.next i k = some j → k < LIM := fun k j hk => by
    by_cases e : k = H.next
    · subst e; exact hl
    · rw [put_other e] at hk
      exact Nat.lt_of_lt_of_le (h.fresh k j hk).1 h.lim
  have get : ∀ k j, put m H.next i k = some j → (H.new o).get k = if k = H.next then some o else H.get k := fun k j hk => Heap.get_new h.ok hl (lt k j hk)
  refine ⟨h.below, h.bsize, ?_, ?_, ?_, ?_, ?_, by rw [Heap.next_new]; exact hl, Heap.ok_new h.ok o⟩
  · intro k p j hp hj
    rw [get k j hj] at hp
    by_cases e : k = H.next
    · subst e; simp only [if_true, Option.some.injEq] at hp; rw [put_same] at hj; cases hj; subst hp; exact ho
    · simp only [e, if_false] at hp; rw [put_other e] at hj; exact (h.obj k p j hp hj).mono s
  · intro k p j hp hj hr
    rw [get k j hj] at hp
    by_cases e : k = H.next
    · subst e; rw [put_same] at hj; cases hj; exact hB
    · simp only [e, if_false] at hp; rw [put_other e] at hj; exact h.own k p j hp hj hr
  · intro k p j hp hj hr
    rw [get k j hj] at hp
    by_cases e : k = H.next
    · subst e; simp only [if_true, Option.some.injEq] at hp; subst hp; rw [hrw] at hr; cases hr
    · simp only [e, if_false] at hp; rw [put_other e] at hj; exact h.roo k p j hp hj hr
  · intro k k' p p' j j' hp hp' r r' hj hj' eb
    rw [get k j hj] at hp
    rw [get k' j' hj'] at hp'
    by_cases e : k = H.next <;> by_cases e' : k' = H.next
    · rw [e, e']
    · simp only [e', if_false] at hp'
      rw [e, put_same] at hj; cases hj
      rw [put_other e'] at hj'
      exact absurd eb.symm (hno k' p' j' hp' hj')
    · simp only [e, if_false] at hp
      rw [e', put_same] at hj'; cases hj'
      rw [put_other e] at hj
      exact absurd eb (hno k p j hp hj)
    · simp only [e, if_false] at hp; simp only [e', if_false] at hp'
      rw [put_other e] at hj; rw [put_other e'] at hj'
      exact h.inj k k' p p' j j' hp hp' r r' hj hj' eb
  · intro k j hj
    rw [Heap.next_new]
    by_cases e : k = H.next
    · subst e; rw [put_same] at hj; cases hj; exact ⟨by omega, hi⟩
    · rw [put_other e] at hj; have := h.fresh k j hj; exact ⟨by omega, this.2⟩

/-- What an append comes to. -/
def Apps (P : Program) (B : Nat) (W : World) (m : Mp) (H : Heap) (s : Sem Value) (w : World) (v : Value) (H' : Heap) : Prop :=
  ∃ (m' : Mp) (w' : World) (v' : Value), s.run P w = .ok v' w' ∧ VR m' v v' ∧ Rel P B W w' m' H' ∧ Sub m m' ∧ (∀ id, id < H.next → m' id = m id) ∧ H.next ≤ H'.next

theorem apps_new {B : Nat} {W w : World} {m : Mp} {H H0 : Heap} (hr : Rel P B W w m H0) (hnx : H0.next = H.next) (hl : H.next < LIM) {ts : Array TypeId} {ty e : TypeId} {i : TypeInfo} (T : AppT P ts e i) {base : Option Addr} {n c k : Nat} {x' : Value} (hlen : (Builtin.lenOf x').run P w = .ok k w)
    (hfit : c < n + k) (hb : 0 < i.bytes) (hroom : (n + k) * i.bytes ≤ 140737488355328) {olds news : List Value} {old new : List Value} (ho : (Builtin.firstCells i.size n (.slice base n c)).run P w.drew = .ok old.toArray w.drew)
    (hn : (Builtin.firstCells i.size k x').run P w.drew = .ok new.toArray w.drew) (vo : VRs m olds old) (vn : VRs m news new) (hol : old.length = n * i.size) (hnl : new.length = k * i.size) {D : Cs} (hD : D.toL = olds ++ news) :
    Apps P B W m H (Builtin.append_ ts ty #[.slice base n c, x']) w (.slice (some ⟨H.next, 0, none⟩) (n + k) UNK) (H0.new (.cells false D i.size)) := by
  obtain ⟨nc, rest, h1, h2, h3⟩ := run_app_grows (ty := ty) T hlen hfit hb hroom ho hn
  have hid : m H.next = none := by
    cases e : m H.next with
    | none => rfl
    | some j => have := (hr.fresh _ _ e).1; omega
  have hvl := vo.append vn
  obtain ⟨C, hCd⟩ : ∃ C, C = old.toArray ++ new.toArray ++ rest := ⟨_, rfl⟩
  rw [← hCd] at h3
  have hC : C.size = nc * i.size := by
    rw [hCd]
    simp only [Array.size_append, List.size_toArray, hol, hnl, h2]
    rw [← Nat.add_mul, ← Nat.add_mul]
    congr 1; omega
  have hlen2 : (olds ++ news).length = (old ++ new).length := hvl.1
  have hll2 : (old ++ new).length = (n + k) * i.size := by rw [List.length_append, hol, hnl, Nat.add_mul]
  have hpart := oRel_part (P := P) (w := w.drew) (C := C) e i.size (l := olds ++ news) (m := m) (id := H.next) (by
    have : C.toList.take (olds ++ news).length = old ++ new := by
      rw [hlen2, hCd]
      simp only [Array.toList_append, List.toList_toArray]
      exact List.take_left' rfl
    rw [this]; exact hvl) (by rw [hlen2, hll2, hC]; exact Nat.mul_le_mul_right _ h1) hid hD
  refine ⟨put m H.next ⟨w.heap.size, 0, C.size, i.size⟩, _, _, h3, ?_, ?_, Sub.put hid, fun id hlt => put_other (by omega), by rw [Heap.next_new]; omega⟩
  · refine VR.slU (put_same m H.next _) h1 ?_ (.inl rfl)
    show 0 + nc * i.size ≤ C.size
    rw [hC]; omega
  · exact hr.drew.new (.cells C e) _ ⟨w.heap.size, 0, C.size, i.size⟩ hid (by rw [Heap.next_new]; omega) (by rw [Heap.next_new]; omega) (by rw [Heap.next_new, hnx]; exact hl) (Heap.ok_new hr.ok _)
      (fun k' hk' => by rw [Heap.get_new hr.ok (by rw [hnx]; exact hl) hk', hnx]) rfl rfl hpart

theorem eq_undef_of {α : Type} {a b : α} (h : a = b) : b = a := h.symm

theorem sound_app {B : Nat} {W w : World} {m : Mp} {H H' : Heap} (hr : Rel P B W w m H) {ts : Array TypeId} {ty e : TypeId} {i : TypeInfo} (T : AppT P ts e i) (hb : 0 < i.bytes) {s s' x x' v : Value} (hs : VR m s s') (hx : VR m x x')
    (he : w_app H s x i.size i.bytes = some (v, H')) : Apps P B W m H (Builtin.append_ ts ty #[s', x']) w v H' := by
  unfold w_app at he
  split at he
  case h_2 => cases he
  rename_i base n c k hk
  have hlen := fun w2 => sound_lenV (P := P) hx hk w2
  unfold w_appS at he
  rw [beq_iff] at he
  by_cases hk0 : k = 0
  · subst hk0
    simp only [decide_true, cond_true, Option.some.injEq, Prod.mk.injEq] at he
    obtain ⟨rfl, rfl⟩ := he
    have hn := first_none (P := P) hx hk i.size w
    refine ⟨m, w, s', ?_, hs, hr, Sub.refl m, fun _ _ => rfl, Nat.le_refl _⟩
    cases hs with
    | sl0 => exact run_app_fits (ty := ty) T (hlen w) (Nat.le_refl _) hn rfl
    | slK hm hc hn' hxx => exact run_app_fits (ty := ty) T (hlen w) hn' hn (by simp [storeCells])
    | slU hm hn' hss hxx => exact run_app_fits (ty := ty) T (hlen w) hn' hn (by simp [storeCells])
  · simp only [hk0, decide_false, cond_false] at he
    split at he
    case h_1 => cases he
    rename_i news hnews
    obtain ⟨new, vn, hnl, hrun⟩ := sound_src hr hx hk (Nat.le_refl k) hnews
    unfold w_app1 at he
    rw [beq_iff] at he
    by_cases hcu : c = UNK
    · subst hcu
      simp only [decide_true, cond_true] at he
      split at he
      case h_1 => cases he
      rename_i a
      unfold w_appU at he
      split at he
      case h_2 => cases he
      rename_i cs esz hget
      obtain ⟨hcond, he2⟩ := cond_some he
      clear he
      simp only [Bool.and_eq_true, Nat.ble_eq, beq_iff, decide_eq_true_eq, blt_dec] at hcond
      obtain ⟨⟨⟨⟨hle, hesz⟩, hroom⟩, hlim⟩, hone⟩ := hcond
      cases he2
      cases hs with
      | slK hm hc hn' hxx => exact absurd hc (Nat.lt_irrefl _)
      | slU hm hn' hss hxx =>
        rename_i b o inf c' x0
        have hle : o + n * i.size ≤ cs.n := hle
        have hbl : b < LIM := Nat.lt_of_lt_of_le (hr.fresh _ _ hm).1 hr.lim
        obtain ⟨C, e', fr, g1, g2, g3, g4, g5, g6⟩ := hr.cells hget hm
        have g6' := g6 rfl
        subst g6'
        have hrd : cs.t.rd o (n * i.size) = (cs.toL.drop o).take (n * i.size) := cs.rd_eq hle
        have holds : rdCells H b o (n * i.size) = some (cs.t.rd o (n * i.size)) := by
          unfold rdCells
          rw [hget]
          show cond (Nat.ble (o + n * i.size) cs.n) _ none = _
          rw [show Nat.ble (o + n * i.size) cs.n = true from Nat.ble_eq ▸ hle]
          rfl
        have hfor := hr.forget b hbl
        have hnewlen : news.length = k * i.size := by rw [vn.1, hnl]
        obtain ⟨D, hD⟩ : ∃ D, D = cond (Nat.beq o 0 && Nat.beq (n * i.size) cs.n) (cs.app news) (Cs.ofL (cs.t.rd o (n * i.size) ++ news)) := ⟨_, rfl⟩
        have hDl : D.toL = cs.t.rd o (n * i.size) ++ news := by
          cases hcz : (Nat.beq o 0 && Nat.beq (n * i.size) cs.n) with
          | false => rw [hD, hcz, cond_false, Cs.toL_ofL]
          | true =>
            rw [hD, hcz, cond_true, Cs.toL_app]
            simp only [Bool.and_eq_true, beq_iff, decide_eq_true_eq] at hcz
            rw [hcz.1, hcz.2]; rfl
        have hDn : D.n = n * i.size + k * i.size := by rw [← D.length_toL, hDl, List.length_append, BT.rd_length, hnewlen]
        have hown := hr.own b _ inf hget hm rfl
        rw [← hD]
        by_cases hfit : n + k ≤ c'
        · have hx0 : x0 = inf.base + o := hxx.resolve_right (by omega)
          subst hx0
          have hmul : (n + k) * i.size ≤ c' * i.size := Nat.mul_le_mul_right _ hfit
          have hadd : (n + k) * i.size = n * i.size + k * i.size := Nat.add_mul _ _ _
          rw [g3, hesz, ← g2] at hss
          have hone' : ∀ v ∈ new, v.oneCell' = true := by
            intro v hv
            obtain ⟨j, hj⟩ := List.mem_iff_getElem?.1 hv
            have hj' : j < news.length := by
              rcases Nat.lt_or_ge j new.length with h | h
              · rw [vn.1]; exact h
              · rw [List.getElem?_eq_none h] at hj; cases hj
            obtain ⟨v2, e2, r2⟩ := vn.get (List.getElem?_eq_getElem hj')
            rw [hj] at e2; cases e2
            rw [← r2.oneCell]
            exact List.all_eq_true.1 hone news[j] (List.getElem_mem hj')
          have hst := run_storeCells_at (P := P) inf.blk (inf.base + o + n * i.size) e' new 0 C w g1 (by omega) hone'
          rw [Nat.add_zero] at hst
          obtain ⟨C1, hC1⟩ : ∃ C1, C1 = (C.toList.take (inf.base + o + n * i.size) ++ new ++ C.toList.drop (inf.base + o + n * i.size + new.length)).toArray := ⟨_, rfl⟩
          rw [← hC1] at hst
          have hC1s : C1.size = C.size := by
            rw [hC1]
            simp only [List.size_toArray, List.length_append, List.length_take, List.length_drop, Array.length_toList]
            omega
          have hno : ∀ id p j, (H.set b none).get id = some p → m id = some j → j.blk ≠ inf.blk := by
            intro id p j hp hj eb
            have hid := Nat.lt_of_lt_of_le (hr.fresh id j hj).1 hr.lim
            rw [Heap.get_set hr.ok hbl hid] at hp
            by_cases e : id = b
            · simp [e] at hp
            · simp only [e, if_false] at hp
              cases hrw : p.rw with
              | true => exact e (hr.inj id b p _ j inf hp hget hrw rfl hj hm eb)
              | false => have := hr.roo id p j hp hj hrw; omega
          have hsc := hfor.scribble C1 hown hno
          have hbk : inf.blk < w.heap.size := (hr.fresh b inf hm).2
          have hidn : m H.next = none := by
            cases e : m H.next with
            | none => rfl
            | some j => have := (hr.fresh _ _ e).1; omega
          have hrow : VRs m D.toL ((C1.toList.drop (inf.base + o)).take D.n) := by
            rw [hDl, hDn, hC1, List.toList_toArray, ← hnl, splice_drop (base := inf.base + o) (n := n * i.size + new.length) (o := n * i.size) (by have := Array.length_toList (xs := C); omega) (by omega)]
            have e1 : ((C.toList.drop (inf.base + o)).take (n * i.size + new.length)).drop (n * i.size + new.length) = [] := by
              apply List.drop_eq_nil_of_le
              rw [List.length_take]; omega
            rw [e1, List.append_nil]
            refine VRs.append ?_ vn
            rw [hrd]
            have e2 : ((C.toList.drop (inf.base + o)).take (n * i.size + new.length)).take (n * i.size) = ((((C.toList.drop inf.base).take cs.n).drop o).take (n * i.size)) := by
              apply List.ext_getElem?
              intro j
              simp only [List.getElem?_take, List.getElem?_drop]
              by_cases hj : j < n * i.size
              · simp [hj, show j < n * i.size + new.length by omega, show o + j < cs.n by omega, Nat.add_assoc]
              · simp [hj]
            rw [e2]
            exact (g5.drop o).take _
          have had := hsc.adopt (o := .cells false D i.size) (i := ⟨inf.blk, inf.base + o, C.size, i.size⟩) (by rw [Heap.next_set]; exact hlim) (by simpa [World.setRow] using hbk) hown rfl (fun id p j hp hj => hno id p j hp hj)
            ⟨C1, e', (0, 0), setRow_heap w inf.blk C C1 e' (0, 0) g1, hC1s, rfl, by rw [hC1s]; show inf.base + o + D.n ≤ C.size; omega, hrow.mono (Sub.put (by rw [Heap.next_set]; exact hidn)), fun _ => rfl⟩
          rw [Heap.next_set] at had
          refine ⟨put m H.next ⟨inf.blk, inf.base + o, C.size, i.size⟩, w.setRow inf.blk C1, .slice (some ⟨inf.blk, inf.base + o, none⟩) (n + k) c', ?_, ?_, had, Sub.put hidn, fun id hlt => put_other (by omega), by rw [Heap.next_new, Heap.next_set]; omega⟩
          · refine run_app_fits (ty := ty) T (hlen w) hfit (hrun w rfl) ?_
            show (storeCells (Addr.add ⟨inf.blk, inf.base + o, none⟩ (n * i.size)) _).run P w = _
            rw [add_none]
            exact hst
          · exact VR.slU (i := ⟨inf.blk, inf.base + o, C.size, i.size⟩) (put_same m H.next _) hfit (by show inf.base + o + c' * i.size ≤ C.size; exact hss) (.inl rfl)
        · have hdr : (w.drew).heap = w.heap := rfl
          obtain ⟨old, ho1, ho2, ho3⟩ : ∃ old : List Value, VRs m (cs.t.rd o (n * i.size)) old ∧ old.length = n * i.size ∧ (Builtin.firstCells i.size n (.slice (some ⟨inf.blk, x0, none⟩) n c')).run P w.drew = .ok old.toArray w.drew := by
            by_cases h0 : n * i.size = 0
            · refine ⟨[], ?_, by simp [h0], by simp [Builtin.firstCells, h0, loadCells, loadCellsFrom]⟩
              rw [h0]; exact VRs.nil m
            · have hn0 : n ≠ 0 := fun e => h0 (by simp [e])
              have hx0 : x0 = inf.base + o := hxx.resolve_right (by omega)
              subst hx0
              obtain ⟨old, q1, q2, q3⟩ := hr.rd holds hm
              refine ⟨old, q2, q1, ?_⟩
              have := run_loadCells_list (P := P) w.drew _ old (fun j v hj => by rw [cell_of_heap hdr]; exact q3 j v hj)
              rw [q1] at this
              simpa [Builtin.firstCells] using this
          exact apps_new hfor (by rw [Heap.next_set]) hlim T (hlen w) (by omega) hb hroom ho3 (hrun w.drew rfl) ho1 vn ho2 hnl hDl
    · simp only [hcu, decide_false, cond_false] at he
      by_cases hfit : n + k ≤ c
      · have hble : Nat.ble (n + k) c = true := by rw [Nat.ble_eq]; exact hfit
        rw [hble, cond_true] at he
        unfold w_appI at he
        split at he
        case h_1 => cases he
        rename_i a
        cases hw : wrCells H a.block (a.off + n * i.size) news with
        | none => rw [hw] at he; cases he
        | some H2 =>
          rw [hw] at he
          cases he
          cases hs with
          | slU hm hn' hss hxx => exact absurd rfl hcu
          | slK hm hc hn' hxx =>
            have hx0 := hxx.resolve_right (by omega)
            subst hx0
            obtain ⟨w', q1, q2, q3⟩ := hr.wr hw hm vn
            refine ⟨m, w', _, run_app_fits (ty := ty) T (hlen w) hfit (hrun w rfl) ?_, VR.slK hm hc hfit (.inl rfl), q2, Sub.refl m, fun _ _ => rfl, Nat.le_of_eq q3.symm⟩
            show (storeCells (Addr.add _ (n * i.size)) _).run P w = _
            rw [add_none, Nat.add_assoc]
            exact q1
      · have hble : Nat.ble (n + k) c = false := by
          rw [← Bool.not_eq_true, Nat.ble_eq]; exact hfit
        rw [hble, cond_false] at he
        unfold w_appN at he
        split at he
        case h_1 => cases he
        rename_i olds holds
        obtain ⟨hcond, he2⟩ := cond_some he
        clear he
        simp only [Bool.and_eq_true, Nat.ble_eq, beq_iff, decide_eq_true_eq, blt_dec] at hcond
        obtain ⟨⟨hol, hroom⟩, hlim⟩ := hcond
        cases he2
        have hdr : (w.drew).heap = w.heap := rfl
        have main : ∀ (base' : Option Addr), s' = .slice base' n c → (∃ old : List Value, VRs m olds old ∧ old.length = n * i.size ∧ (Builtin.firstCells i.size n (.slice base' n c)).run P w.drew = .ok old.toArray w.drew) →
            Apps P B W m H (Builtin.append_ ts ty #[s', x']) w (.slice (some ⟨H.next, 0, none⟩) (n + k) UNK) (H.new (.cells false (Cs.ofL (olds ++ news)) i.size)) := by
          rintro base' rfl ⟨old, ho1, ho2, ho3⟩
          exact apps_new hr rfl hlim T (hlen w) (by omega) hb hroom ho3 (hrun w.drew rfl) ho1 vn ho2 hnl (Cs.toL_ofL _)
        unfold oldsOf at holds
        cases hs with
        | sl0 =>
          simp only [Option.some.injEq] at holds
          subst holds
          exact main none rfl ⟨[], VRs.nil m, by simp, by simp [Builtin.firstCells]⟩
        | slU hm hn' hss hxx => exact absurd rfl hcu
        | slK hm hc hn' hxx =>
          rename_i b o inf x0
          refine main _ rfl ?_
          simp only [beq_iff] at holds
          by_cases h0 : n * i.size = 0
          · simp only [h0, decide_true, cond_true, Option.some.injEq] at holds
            subst holds
            exact ⟨[], VRs.nil m, by simp [h0], by simp [Builtin.firstCells, h0, loadCells, loadCellsFrom]⟩
          · simp only [h0, decide_false, cond_false] at holds
            have hn0 : n ≠ 0 := fun e => h0 (by simp [e])
            have hx0 := hxx.resolve_right (by omega)
            subst hx0
            obtain ⟨old, q1, q2, q3⟩ := hr.rd holds hm
            refine ⟨old, q2, q1, ?_⟩
            have := run_loadCells_list (P := P) w.drew _ old (fun j v hj => by rw [cell_of_heap hdr]; exact q3 j v hj)
            rw [q1] at this
            simpa [Builtin.firstCells] using this

/-! ### Copying -/

theorem sound_cpy {B : Nat} {W w : World} {m : Mp} {H H' : Heap} (hr : Rel P B W w m H) {ts : Array TypeId} {ty t e : TypeId} {sz : Nat} (ht : ts[0]? = some t) (hu : P.underlying t = some (.slice e)) (hz : sizeOfT P e = some sz) {d d' x x' v : Value} (hd : VR m d d') (hx : VR m x x')
    (he : w_cpy H d x sz = some (v, H')) : H'.next = H.next ∧ ∃ w' v', (Builtin.copy_ ts ty #[d', x']).run P w = .ok v' w' ∧ VR m v v' ∧ Rel P B W w' m H' := by
  unfold w_cpy at he
  split at he
  case h_2 => cases he
  rename_i base n c k hk
  have hlen := sound_lenV (P := P) hx hk w
  unfold w_cpyS at he
  rw [beq_iff] at he
  have hle : Nat.min k n ≤ k := Nat.min_le_left ..
  have hle2 : Nat.min k n ≤ n := Nat.min_le_right ..
  by_cases h0 : Nat.min k n = 0
  · simp only [h0, decide_true, cond_true, Option.some.injEq, Prod.mk.injEq] at he
    obtain ⟨rfl, rfl⟩ := he
    refine ⟨rfl, w, .int .i64 (Nat.min k n), ?_, by rw [h0]; exact .int _ _, hr⟩
    have hf := first_none (P := P) hx hk sz w
    have lst : ∀ (base' : Option Addr) (c' : Nat), (Builtin.copy_ ts ty #[.slice base' n c', x']).run P w = .ok (.int .i64 (Nat.min k n)) w := by
      intro base' c'
      cases base' <;> simp [Builtin.copy_, ht, run_underlying hu, run_size hz, hlen, h0, hf, storeCells, goInt]
    cases hd with
    | sl0 => exact lst _ _
    | slK hm hc hn' hxx => exact lst _ _
    | slU hm hn' hss hxx => exact lst _ _
  · simp only [h0, decide_false, cond_false] at he
    split at he
    case h_2 => cases he
    rename_i a cs hcs
    obtain ⟨new, vn, hnl, hrun⟩ := sound_src hr hx hk hle hcs
    cases hw : wrCells H a.block a.off cs with
    | none => rw [hw] at he; cases he
    | some H2 =>
      rw [hw] at he
      cases he
      have fin : ∀ (i : Inf) (b o x0 c' : Nat), m b = some i → x0 = i.base + o → a = ⟨b, o, none⟩ → H'.next = H.next ∧ ∃ w' v', (Builtin.copy_ ts ty #[.slice (some ⟨i.blk, x0, none⟩) n c', x']).run P w = .ok v' w' ∧ VR m (.int .i64 (Nat.min k n)) v' ∧ Rel P B W w' m H' := by
        rintro i b o x0 c' hm rfl rfl
        obtain ⟨w', q1, q2, q3⟩ := hr.wr hw hm vn
        refine ⟨q3, w', .int .i64 (Nat.min k n), ?_, .int _ _, q2⟩
        simp [Builtin.copy_, ht, run_underlying hu, run_size hz, hlen, hrun w rfl, q1, goInt]
      cases hd with
      | slK hm hc hn' hxx => exact fin _ _ _ _ _ hm (hxx.resolve_right (by omega)) rfl
      | slU hm hn' hss hxx => exact fin _ _ _ _ _ hm (hxx.resolve_right (by omega)) rfl

/-! ### Maps -/

theorem ER.modify {m : Mp} {es es' : List MapEntry} (h : ER m es es') (i : Nat) {k x x' : Value} (hk : flat 0 k = true) (hx : VR m x x') :
    ER m (es.modify i fun e => { e with key := k, val := x }) (es'.modify i fun e => { e with key := k, val := x' }) := by
  refine ⟨by simp [h.1], fun j e he => ?_⟩
  rw [List.getElem?_modify] at he ⊢
  cases hj : es[j]? with
  | none => rw [hj] at he; simp at he
  | some e0 =>
    obtain ⟨e1, g1, g2, g3, g4, g5⟩ := h.2 j e0 hj
    rw [hj] at he
    rw [g1]
    by_cases e2 : i = j
    · simp only [e2, if_true, Option.map_eq_map, Option.map_some, Option.some.injEq] at he ⊢
      subst he
      exact ⟨_, rfl, rfl, g3, hk, hx⟩
    · simp only [e2, if_false, Option.map_eq_map, Option.map_some, Option.some.injEq] at he ⊢
      subst he
      exact ⟨_, rfl, g2, g3, g4, g5⟩

theorem ER.push {m : Mp} {es es' : List MapEntry} (h : ER m es es') {k x x' : Value} {c : Nat} (hk : flat 0 k = true) (hx : VR m x x') :
    ER m (es ++ [{ key := k, val := x, born := c }]) (es' ++ [{ key := k, val := x', born := c }]) := by
  refine ⟨by simp [h.1], fun j e he => ?_⟩
  rcases Nat.lt_trichotomy j es.length with hj | hj | hj
  · rw [List.getElem?_append_left hj] at he
    rw [List.getElem?_append_left (by rw [h.1]; exact hj)]
    exact h.2 j e he
  · subst hj
    have e1 : es'.length = es.length := h.1
    simp only [List.getElem?_concat_length, Option.some.injEq] at he
    subst he
    refine ⟨{ key := k, val := x', born := c }, ?_, rfl, rfl, hk, hx⟩
    rw [← e1, List.getElem?_concat_length]
  · rw [List.getElem?_eq_none (by simp; omega)] at he
    cases he

theorem findNow_hit {d : TypeDesc} {k : Value} : ∀ {es : List MapEntry} {i j : Nat} {v : Value}, Instr.findNow d k es i = some (some (j, v)) → i ≤ j ∧ ∃ e, es[j - i]? = some e ∧ Instr.sameNow d k e.key = some true
  | [], i, j, v, h => by simp [Instr.findNow] at h
  | e :: es, i, j, v, h => by
    unfold Instr.findNow at h
    split at h
    · rename_i hs
      simp only [Option.some.injEq, Prod.mk.injEq] at h
      obtain ⟨rfl, rfl⟩ := h
      exact ⟨Nat.le_refl _, e, by simp, hs⟩
    · obtain ⟨h1, e1, h2, h3⟩ := findNow_hit h
      refine ⟨by omega, e1, ?_, h3⟩
      rw [show j - i = (j - (i + 1)) + 1 by omega, List.getElem?_cons_succ]
      exact h2
    · cases h

theorem sameNow_bits {kd : Option IntKind} {k x : Value} (hk : keyOk kd k = true) (h : Instr.sameNow (keyD kd) k x = some true) : Instr.sameBits 10000 x k = true := by
  unfold keyOk at hk
  split at hk
  · cases x <;> simp [Instr.sameNow, keyD] at h
    obtain ⟨rfl, rfl⟩ := h
    simp [Instr.sameBits]
  · cases x <;> simp [Instr.sameNow, keyD] at h
    simp only [Instr.sameBits]
    exact (bytes_beq _ _).2 ((bytes_beq _ _).1 h).symm
  · cases hk

theorem sound_mapup {B : Nat} {W w : World} {m : Mp} {H H' : Heap} (hr : Rel P B W w m H) {t kt e : TypeId} {kd : Option IntKind} (hu : P.underlying t = some (.map kt e)) (hk : P.underlying kt = some (keyD kd))
    {x x' y y' z z' v : Value} (hx : VR m x x') (hy : VR m y y') (hzz : VR m z z') (he : w_mapup H kd x y z = some (v, H')) : v = undef ∧ H'.next = H.next ∧ ∃ w', (Instr.mapUpdate t x' y' z').run P w = .ok () w' ∧ Rel P B W w' m H' := by
  obtain ⟨hko, he1⟩ := cond_some he
  clear he
  have hyy := keyOk_eq hko hy
  subst hyy
  have ck := fun b => run_checkKey (w := w) hk (keyOk_isKey hko) b 9999
  have hfl : flat 0 y' = true := by
    unfold keyOk at hko
    split at hko
    · rfl
    · rfl
    · cases hko
  split at he1
  · rename_i r
    unfold w_mapupM at he1
    split at he1
    · rename_i es clock hg
      cases hx with
      | map hm =>
        rename_i i
        obtain ⟨es', hb, er⟩ := hr.map hg hm
        have go := run_getMap (P := P) hb
        have rel := findNow_rel (d := keyD kd) (k := y') 0 er
        have wr : ∀ (l : List MapEntry) (l' : Array MapEntry) (c : Nat), ER m l l'.toList → Rel P B W { w with heap := w.heap.setIfInBounds i.blk (.map l' c) } m (H.set r (some (.map l c))) := by
          intro l l' c hl
          have hlt := (hr.fresh r i hm).2
          refine hr.write hg hm rfl rfl ?_ (by simp) (fun k hk' => ?_) ?_
          · refine hr.below.trans ⟨rfl, rfl, rfl, by simp, fun k hk' => ?_⟩
            have := hr.own r _ i hg hm rfl
            simp only [Array.getElem?_setIfInBounds]
            rw [if_neg (by omega)]
          · simp only [Array.getElem?_setIfInBounds]
            rw [if_neg (fun e => hk' e.symm)]
          · refine ⟨l', ?_, ?_, fun k e he => ?_⟩
            · simp only [Array.getElem?_setIfInBounds]
              simp [hlt]
            · have := hl.1; simpa using this
            · obtain ⟨e', g1, g2⟩ := hl.2 k e he
              exact ⟨e', by simpa using g1, g2⟩
        cases hf : Instr.findNow (keyD kd) y' es 0 with
        | none => rw [hf] at he1; cases he1
        | some a =>
          rw [hf] at he1
          cases a with
          | none =>
            have fk := run_findKey (w := w) hk (rel.2 hf)
            cases he1
            exact ⟨rfl, rfl, _, by simp [Instr.mapUpdate, run_underlying hu, go, ck, fk, run_setObj_map _ hb]; rfl, wr _ (es'.push _) _ (by rw [Array.toList_push]; exact er.push hfl hzz)⟩
          | some p =>
            obtain ⟨j, v0⟩ := p
            obtain ⟨v1, h1, r1⟩ := rel.1 j v0 hf
            have fk := run_findKey (w := w) hk h1
            obtain ⟨_, e0, h2, h3⟩ := findNow_hit h1
            have h4 : es'[j]? = some e0 := by simpa using h2
            have h5 := sameNow_bits hko h3
            cases he1
            exact ⟨rfl, rfl, _, by simp [Instr.mapUpdate, run_underlying hu, go, ck, fk, run_setObj_map _ hb, Instr.keyThatStays, h4, h5]; rfl, wr _ (es'.modify j _) _ (by rw [Array.toList_modify]; exact er.modify j hfl hzz)⟩
    · cases he1
  · cases he1

/-! ### All of them -/

theorem exec_u {s : Sem Unit} {w w' : World} (h : s.run P w = .ok () w') : (do s; pure (Next.value undef) : Sem Next).run P w = .ok (.value undef) w' := by simp [h]

theorem does_u {B : Nat} {W w w' : World} {m : Mp} {H H' : Heap} {s : Sem Next} {r : Next} {v v' : Value} (h : s.run P w = .ok r w') (hrv : r = .value v' ∨ (r = .skip ∧ v' = undef)) (hv : VR m v v') (hr : Rel P B W w' m H') (hn : H'.next = H.next) : Does P B W m H s w v H' :=
  ⟨m, w', r, v', h, hrv, hv, hr, Sub.refl m, fun _ _ => rfl, Nat.le_of_eq hn.symm⟩

theorem appT_of {ts : Array TypeId} {t u e : TypeId} {dd : TypeDesc} {i : TypeInfo} {zs : List Value} (ht : ts[0]? = some t) (hu : P.underlying t = some (.slice e)) (ht1 : ts[1]? = some u) (hu1 : P.underlying u = some dd) (hd : (∃ e', dd = .slice e') ∨ dd = .string)
    (hi : P.info? e = some i) (hz : zeroT P e = some zs) (hb : (Nat.blt 0 i.bytes && Nat.beq zs.length i.size) = true) : AppT P ts e i ∧ 0 < i.bytes := by
  simp only [Bool.and_eq_true, blt_dec, beq_iff, decide_eq_true_eq] at hb
  refine ⟨⟨⟨t, ht, hu⟩, ⟨u, dd, ht1, hu1, hd⟩, hi, ?_⟩, hb.1⟩
  unfold zeroT at hz
  rw [hi] at hz
  simp only [] at hz
  split at hz
  · rename_i z hzz
    obtain ⟨_, h2⟩ := cond_some hz
    cases h2
    exact ⟨z, hzz, by have := hb.2; simpa using this⟩
  · cases hz

theorem sound_w {B : Nat} {W w : World} {m : Mp} {H H' : Heap} (hr : Rel P B W w m H) {d : Nat} {o : Oper} {k : KW} (hc : compOp0 P d o = some (.w k)) {ρ : Od → Value} {ρ' : Operand → Value} (hops : OpsR m d o.op ρ ρ') {v : Value} (he : exW ρ H k = some (v, H')) :
    Does P B W m H (execOp ρ' o) w v H' := by
  obtain ⟨dst, op, ty, pos, after, g⟩ := o
  unfold compOp0 at hc
  replace hc := (cond_some hc).2
  cases op with
  | store t a x =>
    simp only [] at hc
    split at hc
    · rename_i s hs
      cases hc
      obtain ⟨rfl, hn, w', h1, h2⟩ := sound_store hr hs (hops a (by simp [Op.operands])) (hops x (by simp [Op.operands])) he
      exact does_u (r := .skip) (v' := undef) (by simp [execOp, h1]) (.inr ⟨rfl, rfl⟩) (VR.undef m) h2 hn
    · cases hc
  | mapUpdate t mm k x =>
    simp only [] at hc
    split at hc
    · rename_i kt e hu
      split at hc
      · rename_i kd hk
        cases hc
        obtain ⟨rfl, hn, w', h1, h2⟩ := sound_mapup hr hu hk (kd := some kd) (hops mm (by simp [Op.operands])) (hops k (by simp [Op.operands])) (hops x (by simp [Op.operands])) he
        exact does_u (r := .skip) (v' := undef) (by simp [execOp, h1]) (.inr ⟨rfl, rfl⟩) (VR.undef m) h2 hn
      · rename_i hk
        cases hc
        obtain ⟨rfl, hn, w', h1, h2⟩ := sound_mapup hr hu hk (kd := none) (hops mm (by simp [Op.operands])) (hops k (by simp [Op.operands])) (hops x (by simp [Op.operands])) he
        exact does_u (r := .skip) (v' := undef) (by simp [execOp, h1]) (.inr ⟨rfl, rfl⟩) (VR.undef m) h2 hn
      · cases hc
    · cases hc
  | call c =>
    obtain ⟨callee, args, argTypes⟩ := c
    cases callee with
    | builtin b =>
      have arr2 : ∀ a b, args.toList = [a, b] → args = #[a, b] := fun a b h => by cases args; simp_all
      have ops2 : ∀ a b, args.toList = [a, b] → VR m (ρ (od d a)) (ρ' a) ∧ VR m (ρ (od d b)) (ρ' b) := fun a b h =>
        ⟨hops a (by simp [Op.operands, Call.operands, h]), hops b (by simp [Op.operands, Call.operands, h])⟩
      cases b with
      | append =>
        simp only [] at hc
        split at hc
        · rename_i t u s x ht hu1 hargs
          obtain rfl := arr2 _ _ hargs
          obtain ⟨hs, hx⟩ := ops2 _ _ hargs
          have fin : ∀ {e : TypeId} {i : TypeInfo} {dd : TypeDesc} {zs : List Value}, P.underlying t = some (.slice e) → P.underlying u = some dd → ((∃ e', dd = .slice e') ∨ dd = .string) → P.info? e = some i → zeroT P e = some zs →
              cond (Nat.blt 0 i.bytes && Nat.beq zs.length i.size) (some (K.w (.app (od d s) (od d x) i.size i.bytes))) none = some (K.w k) → Does P B W m H (execOp ρ' ⟨dst, .call ⟨.builtin .append, #[s, x], argTypes⟩, ty, pos, after, g⟩) w v H' := by
            intro e i dd zs h1 h2 h3 h4 h5 hcc
            obtain ⟨hb, hcc⟩ := cond_some hcc
            cases hcc
            obtain ⟨T, hpos⟩ := appT_of ht h1 hu1 h2 h3 h4 h5 hb
            obtain ⟨m', w', v', q1, q2, q3, q4, q5, q6⟩ := sound_app (ty := ty) hr T hpos hs hx he
            exact ⟨m', w', .value v', v', by simp [execOp, resolve, invoke, builtin, q1], .inl rfl, q2, q3, q4, q5, q6⟩
          split at hc
          · rename_i e e' h1 h2
            split at hc
            · rename_i i zs h4 h5
              exact fin h1 h2 (.inl ⟨_, rfl⟩) h4 h5 hc
            · cases hc
          · rename_i e h1 h2
            split at hc
            · rename_i i zs h4 h5
              exact fin h1 h2 (.inr rfl) h4 h5 hc
            · cases hc
          · cases hc
        · cases hc
      | copy =>
        simp only [] at hc
        split at hc
        · rename_i t s x ht hargs
          obtain rfl := arr2 _ _ hargs
          obtain ⟨hs, hx⟩ := ops2 _ _ hargs
          split at hc
          · rename_i e hu
            split at hc
            · rename_i z hz
              cases hc
              obtain ⟨hn, w', v', h1, h2, h3⟩ := sound_cpy (ty := ty) hr ht hu hz hs hx he
              exact does_u (r := .value v') (v' := v') (by simp [execOp, resolve, invoke, builtin, h1]) (.inl rfl) h2 h3 hn
            · cases hc
          · cases hc
        · cases hc
      | delete =>
        simp only [] at hc
        split at hc
        · split at hc
          · split at hc
            · cases hc; cases he
            · cases hc; cases he
            · cases hc
          · cases hc
        · cases hc
      | len =>
        exfalso
        simp only [] at hc
        repeat' (split at hc)
        all_goals exact absurd hc (by simp)
      | cap =>
        exfalso
        simp only [] at hc
        repeat' (split at hc)
        all_goals exact absurd hc (by simp)
      | _ => exact absurd hc (by simp)
    | value f =>
      exfalso
      cases f with
      | func f =>
        simp only [] at hc
        split at hc
        · replace hc := (cond_some hc).2; cases hc
        · cases hc
      | _ => exact absurd hc (by simp)
    | invoke r n => cases hc
  | load t x =>
    exfalso
    simp only [] at hc
    split at hc
    · rename_i ag s hag hs
      cases ag <;> exact absurd hc (by simp)
    · cases hc
  | build t parts =>
    exfalso
    simp only [] at hc
    repeat' (split at hc)
    all_goals exact absurd hc (by simp)
  | binOp bop t x y yt =>
    exfalso
    cases bop <;> simp only [] at hc <;> split at hc <;> exact absurd hc (by simp)
  | convert src dt x =>
    exfalso
    simp only [] at hc
    repeat' (split at hc)
    all_goals exact absurd hc (by simp)
  | makeInterface t x =>
    exfalso
    simp only [] at hc
    repeat' (split at hc)
    all_goals exact absurd hc (by simp)
  | makeFunc fn a b => cases fn <;> exact absurd hc (by simp)
  | slice t x lo hi mx =>
    exfalso
    simp only [] at hc
    repeat' (split at hc)
    all_goals exact absurd hc (by simp)
  | fieldAddr s x f =>
    exfalso
    simp only [] at hc
    repeat' (split at hc)
    all_goals exact absurd hc (by simp)
  | field t x f =>
    exfalso
    simp only [] at hc
    split at hc
    · split at hc
      · split at hc
        · rename_i ag s hag hs
          cases ag <;> exact absurd hc (by simp)
        · cases hc
      · cases hc
    · cases hc
  | indexAddr t x i =>
    exfalso
    simp only [] at hc
    repeat' (split at hc)
    all_goals exact absurd hc (by simp)
  | index t x i =>
    exfalso
    simp only [] at hc
    split at hc <;> exact absurd hc (by simp)
  | lookup t x i ok =>
    exfalso
    simp only [] at hc
    repeat' (split at hc)
    all_goals exact absurd hc (by simp)
  | alloc t =>
    exfalso
    simp only [] at hc
    split at hc <;> cases hc
  | buildSlice t n ps =>
    exfalso
    simp only [] at hc
    split at hc
    · split at hc
      · replace hc := (cond_some hc).2; cases hc
      · cases hc
    · cases hc
  | makeSlice t l c =>
    exfalso
    simp only [] at hc
    split at hc
    · split at hc
      · replace hc := (cond_some hc).2; cases hc
      · cases hc
    · cases hc
  | makeMap t r => cases r <;> cases hc
  | _ => cases hc

end Go.Ev
