/-
  A machine-free evaluator for calls ('Go.Ev'): regions whose order is drawn are as it says. Own work.
-/
import Derived.Test.YtmibjobpbmidiaaGreatEvDc
namespace Go.Ev
set_option linter.unusedSimpArgs false
set_option linter.unusedVariables false
open Go Go.RowKit Go.MapKept
variable {P : Program}

theorem known_of {call : CallF} {d n id : Nat} {ops : Array Oper} {L : List DIns} (hc : compC P d n (.region id ops true) = some (.drw L)) {T0 Tf : TT} {H0 Hf : Heap} (he : exDrw P call L T0 H0 [] [] = some (Tf, Hf)) :
    ∃ anc rows HS kf, Known P call d n ops anc rows HS kf T0 Tf H0 Hf := by
  unfold compC at hc
  obtain ⟨h0, hc⟩ := cond_some hc
  rw [Bool.and_eq_true] at h0
  split at hc
  case h_2 => cases hc
  rename_i r hr
  cases hc
  obtain ⟨d1, d2⟩ := drw_ins hr
  obtain ⟨rows, HS, kf, g1, _, _, g4, g5, g6⟩ := run_rows L he
  have hmap : rows.map (·.x.no) = early P d ops ops.size (List.range ops.size) [] := by
    rw [← d1, ← g1, List.map_map]; rfl
  have hx : ∀ r ∈ rows, r.x ∈ L := fun r hr => by rw [← g1]; exact List.mem_map_of_mem hr
  have hop : ∀ r ∈ rows, ∃ o, ops[r.x.no]? = some o ∧ compIns P d n ops o = some r.x.ins ∧ heavyCls r.x.cls = (compOp P d o).heavy := by
    intro r hr
    obtain ⟨o, k1, k2, k3⟩ := d2 r.x (hx r hr)
    refine ⟨o, k1, k2, ?_⟩
    rw [k3, cls_heavy, (ins_some k2).2.2.2.1]
  have hcnt : ∀ p : Nat → Bool, (heavies P d ops (early P d ops ops.size (List.range ops.size) [])).countP p = cnt p rows := by
    intro p
    rw [← hmap]
    exact heavies_cnt p rows fun r hr => let ⟨o, k1, _, k3⟩ := hop r hr; ⟨o, k1, k3⟩
  refine ⟨ancs ops (early P d ops ops.size (List.range ops.size) []) (fun _ => 0), rows, HS, kf, g4, g5, g6, hop, ?_, ?_, ?_, ?_, ?_, ?_⟩
  · intro i hi
    rcases order_all h0.1 i hi with h | h
    · cases h
    · rw [← hmap] at h
      obtain ⟨r, hr, e⟩ := List.mem_map.1 h
      exact ⟨r, hr, e⟩
  · intro pre r post e
    obtain ⟨_, k2, o, k3, k4⟩ := order_at h0.1 (pre.map (·.x.no)) r.x.no (post.map (·.x.no)) (by rw [← hmap, e]; simp)
    refine ⟨fun p hp e => k2 (List.mem_map.2 ⟨p, hp, e⟩), fun o' ho' ed hed hb => ?_⟩
    rw [k3] at ho'; cases ho'
    rcases k4 ed hed hb with h | h
    · cases h
    · obtain ⟨p, hp, e⟩ := List.mem_map.1 h
      exact ⟨p, hp, e⟩
  · intro S hS i j hi hb
    exact anc_closed hS _ _ (fun i j _ h => by simp at h) i j hi hb
  · intro i j oi oj hi hj hne
    exact pair_at h0.2 hi hj hne
  · intro r hr q h1 h2 h3
    obtain ⟨o, k1, k2, k3⟩ := d2 r.x (hx r hr)
    rw [k3, h2] at h1
    simp [clsOf, h3] at h1
  · intro r hr lo hi h
    obtain ⟨o, k1, k2, k3⟩ := d2 r.x (hx r hr)
    rw [k3] at h
    have e1 : bitCount (ancs ops (early P d ops ops.size (List.range ops.size) []) (fun _ => 0) r.x.no) (heavies P d ops (early P d ops ops.size (List.range ops.size) [])) = cnt (fun j => (ancs ops (early P d ops ops.size (List.range ops.size) []) (fun _ => 0) r.x.no).testBit j) rows := by
      unfold bitCount
      rw [fold_cnt, hcnt, Nat.zero_add]
    have e2 : (heavies P d ops (early P d ops ops.size (List.range ops.size) [])).foldl (fun s j => cond ((ancs ops (early P d ops ops.size (List.range ops.size) []) (fun _ => 0) j).testBit r.x.no) s (s + 1)) 0 = cnt (fun j => !(ancs ops (early P d ops ops.size (List.range ops.size) []) (fun _ => 0) j).testBit r.x.no) rows := by
      rw [fold_cnt', hcnt, Nat.zero_add]
    cases hk : r.x.ins.k with
    | q q =>
      rw [hk] at h
      simp only [clsOf] at h
      cases hq : q.reads with
      | false => rw [hq] at h; rcases h with h | h <;> cases h
      | true =>
        rw [hq] at h
        rcases h with h | h
        · cases h; exact ⟨e1, e2⟩
        · cases h
    | a q =>
      rw [hk] at h
      rcases h with h | h
      · cases h
      · cases h; exact ⟨e1, e2⟩
    | _ => rw [hk] at h; rcases h with h | h <;> cases h

theorem chain_stage' {kf : Nat} {Tf : TT} {Hf : Heap} : ∀ {rows : List Row} {k : Nat} {T : TT} {H : Heap}, Chain kf Tf Hf k T H rows → ∀ j, k ≤ j → j < kf → ∃ p ∈ rows, heavyCls p.x.cls = true ∧ p.k = j
  | [], k, _, _, h, j, h1, h2 => by have := h.1; omega
  | y :: rows, k, T, H, h, j, hj1, hj2 => by
    obtain ⟨h1, h2, h3, h4⟩ := h
    cases hh : heavyCls y.x.cls with
    | true =>
      have hv1 : hv y.x = 1 := by simp [hv, hh]
      rcases Nat.lt_or_ge k j with hlt | hge
      · obtain ⟨p, p1, p2⟩ := chain_stage' h4 j (by omega) hj2
        exact ⟨p, by simp [p1], p2⟩
      · exact ⟨y, by simp, hh, by omega⟩
    | false =>
      have hv0 : hv y.x = 0 := by simp [hv, hh]
      obtain ⟨p, p1, p2⟩ := chain_stage' h4 j (by omega) hj2
      exact ⟨p, by simp [p1], p2⟩

theorem countP_lt {p q : Nat → Bool} : ∀ {l : List Nat}, (∀ x ∈ l, q x = true → p x = true) → (∃ x ∈ l, p x = true ∧ q x = false) → l.countP q < l.countP p
  | [], _, h => by obtain ⟨x, hx, _⟩ := h; cases hx
  | y :: l, h, hex => by
    rw [List.countP_cons, List.countP_cons]
    have hle : l.countP q ≤ l.countP p := List.countP_mono_left fun x hx => h x (by simp [hx])
    obtain ⟨x, hx, h1, h2⟩ := hex
    rcases List.mem_cons.1 hx with rfl | hx
    · simp only [h1, h2, if_true, Bool.false_eq_true, if_false]; omega
    · have := countP_lt (fun x hx => h x (by simp [hx])) ⟨x, hx, h1, h2⟩
      have hy := h y (by simp)
      cases hq : q y with
      | false => simp only [Bool.false_eq_true, if_false]; split <;> omega
      | true => simp only [hy hq, if_true]; omega

section
variable {call : CallF} {d n : Nat} {ops : Array Oper} {anc : Nat → Nat} {rows : List Row} {HS : List Heap} {kf : Nat} {T0 Tf : TT} {H0 Hf : Heap} {B : Nat} {W : World} {m0 : Mp} {D : List Nat}

/-- When all have been run. -/
theorem Inv.done (K : Known P call d n ops anc rows HS kf T0 Tf H0 Hf) (hn : n ≤ 2 ^ d) {E : Nat → Prop} {k : Nat} {Hk : Heap} {m : Mp} {a : Act} {w : World} (I : Inv P d n ops rows HS kf T0 H0 B W m0 D E k Hk m a w) (hall : ∀ r ∈ rows, E r.x.no) : Post P B W m0 H0 d n .normal Tf D Hf .normal a w := by
  have hk : k = kf := by
    rcases Nat.lt_or_ge k kf with h | h
    · obtain ⟨p, hp, hh, e⟩ := chain_stage' K.chain k (Nat.zero_le _) h
      have := (I.stage p hp hh).1 (hall p hp)
      omega
    · have := I.kle; omega
  have hH : Hk = Hf := by have h1 := I.hk; rw [hk, K.last] at h1; exact (Option.some.inj h1).symm
  refine ⟨rfl, m, ⟨hH ▸ I.rel, ⟨I.size, hn, fun t ht => ?_⟩, I.dr⟩, I.sub, I.keep, (chain_le K.chain K.good).2.1⟩
  rw [chain_T K.chain]
  obtain ⟨g1, g2⟩ := K.putAll_get hn ht (l := rows) (pre := []) (post := []) T0 (by simp)
  by_cases hex : ∃ r ∈ rows, dstOf ops r = some t
  · obtain ⟨r, hr, hd⟩ := hex
    rw [g1 r hr hd]
    exact (I.tmp t ht).1 r hr (hall r hr) hd
  · rw [g2 fun r hr hd => hex ⟨r, hr, hd⟩]
    exact (I.tmp t ht).2 fun r hr _ hd => hex ⟨r, hr, hd⟩

theorem first_not {E : Nat → Prop} : ∀ (l : List Row), (∀ r ∈ l, E r.x.no) ∨ ∃ pre r post, l = pre ++ r :: post ∧ ¬ E r.x.no ∧ ∀ p ∈ pre, E p.x.no
  | [] => .inl (by simp)
  | y :: l => by
    by_cases h : E y.x.no
    · rcases first_not (E := E) l with h1 | ⟨pre, r, post, e, h1, h2⟩
      · exact .inl fun r hr => by rcases List.mem_cons.1 hr with rfl | hr; exact h; exact h1 r hr
      · exact .inr ⟨y :: pre, r, post, by rw [e]; rfl, h1, fun p hp => by rcases List.mem_cons.1 hp with rfl | hp; exact h; exact h2 p hp⟩
    · exact .inr ⟨[], y, l, rfl, h, by simp⟩

theorem Inv.any (Tl : Told P call) (K : Known P call d n ops anc rows HS kf T0 Tf H0 Hf) (hn : n ≤ 2 ^ d) {F : Fence} (hF : Like F) {kk : Nat} {Q : Exit → Act → World → Prop} (hQ : ∀ a w, Post P B W m0 H0 d n .normal Tf D Hf .normal a w → Q .normal a w) :
    ∀ (fuel : Nat) {listed : Array Bool} {k : Nat} {Hk : Heap} {m : Mp} {a : Act} {w : World}, listed.size = ops.size → (List.range ops.size).countP (fun i => !listed.getD i true) ≤ fuel → Inv P d n ops rows HS kf T0 H0 B W m0 D (fun i => listed.getD i false = true) k Hk m a w → wpAnyIn F kk P .any ops Q fuel listed a w := by
  intro fuel
  induction fuel with
  | zero =>
    intro listed k Hk m a w hs hf I
    have hz : ∀ i, i < ops.size → listed.getD i true = true := by
      intro i hi
      have := List.countP_eq_zero.1 (Nat.le_zero.1 hf) i (List.mem_range.2 hi)
      simpa using this
    refine ⟨?_, hQ _ _ (I.done K hn fun r hr => ?_)⟩
    · rcases hr : Region.ready .any ops listed with _ | ⟨i, l⟩
      · rfl
      · exfalso
        have hi : i ∈ Region.ready .any ops listed := by rw [hr]; simp
        obtain ⟨h1, o, h2, _⟩ := mem_ready.1 hi
        rw [hz i (Array.getElem?_eq_some_iff.1 h2).1] at h1
        cases h1
    · obtain ⟨o, ho, _⟩ := K.op r hr
      have hlt := (Array.getElem?_eq_some_iff.1 ho).1
      have := hz _ hlt
      simp only [Array.getD, hs, hlt, dif_pos] at this ⊢
      exact this
  | succ fuel ih =>
    intro listed k Hk m a w hs hf I
    have gd : ∀ i, i < ops.size → listed.getD i true = listed.getD i false := by
      intro i hi
      simp only [Array.getD, hs, hi, dif_pos]
    refine ⟨fun hr => ?_, fun i hi => ?_⟩
    · rcases first_not (E := fun i => listed.getD i false = true) rows with h | ⟨pre, r, post, e, h1, h2⟩
      · exact hQ _ _ (I.done K hn h)
      · exfalso
        have hmem : r ∈ rows := by rw [e]; simp
        obtain ⟨o, ho, _⟩ := K.op r hmem
        have hlt := (Array.getElem?_eq_some_iff.1 ho).1
        have : r.x.no ∈ Region.ready .any ops listed := mem_ready.2 ⟨by rw [gd _ hlt]; simpa using h1, o, ho, fun ed hed hb => by
          obtain ⟨p, hp, ep⟩ := (K.order pre r post e).2 o ho ed (by simpa using hed) hb
          rw [← ep]
          exact h2 p hp⟩
        rw [hr] at this
        cases this
    · obtain ⟨h1, o, ho, h3⟩ := mem_ready.1 hi
      have hlt := (Array.getElem?_eq_some_iff.1 ho).1
      obtain ⟨r, hmem, rfl⟩ := K.all i hlt
      refine I.step Tl K hn hF hmem (by rw [gd _ hlt] at h1; simp [h1]) ho (fun e he hb => h3 e (by simpa using he) hb) (fun j => (listed.setIfInBounds r.x.no true).getD j false = true) (fun j => ?_) fun k' Hk' m' a' w' I' => ?_
      · simp only [Array.getD_eq_getD_getElem?, Array.getElem?_setIfInBounds]
        by_cases e : r.x.no = j
        · subst e; simp [hs, hlt]
        · simp [e, Ne.symm e]
      · refine ih (by simpa using hs) ?_ I'
        have : (List.range ops.size).countP (fun i => !(listed.setIfInBounds r.x.no true).getD i true) < (List.range ops.size).countP (fun i => !listed.getD i true) := by
          refine countP_lt (fun x _ hx => ?_) ⟨r.x.no, List.mem_range.2 hlt, by simp [h1], ?_⟩
          · simp only [Array.getD_eq_getD_getElem?, Array.getElem?_setIfInBounds] at hx ⊢
            by_cases e : r.x.no = x
            · subst e; simp [hs, hlt] at hx
            · simpa [e] using hx
          · simp only [Array.getD_eq_getD_getElem?, Array.getElem?_setIfInBounds]
            simp [hs, hlt]
        omega
end

/-- **What the evaluator says of a region whose order is drawn is so.** -/
theorem drw_ok (hm : P.follows .mixedOrders = true) (call : CallF) (Tl : Told P call) : DrwOk P call := by
  intro d n id ops L hc T0 Tf H0 Hf he B W w m a F k D hF st
  obtain ⟨anc, rows, HS, kf, K⟩ := known_of hc he
  obtain ⟨Hk, g1, g2⟩ := chain_grow K.chain K.good K.last
  refine wpIn_region_any hm (Inv.any (B := B) (W := W) (m0 := m) (D := D) Tl K st.tr.le hF (fun _ _ h => h) ops.size (by simp) ?_ (k := 0) (Hk := Hk) (m := m) ?_)
  · refine Nat.le_trans List.countP_le_length (by simp)
  · have hE : ∀ i, ¬ ((Array.replicate ops.size false).getD i false = true) := by
      intro i
      simp only [Array.getD_eq_getD_getElem?, Array.getElem?_replicate]
      split <;> simp
    refine ⟨fun i o e h => absurd h (hE i), g1, (chain_le K.chain K.good).1, fun r _ _ => ⟨fun h => absurd h (hE _), fun h => absurd h (Nat.not_lt_zero _)⟩, (st.rel.drew).grow g2, st.tr.size, fun t ht => ⟨fun r _ h => absurd h (hE _), fun _ => st.tr.get t ht⟩, fun r hr _ _ _ => ?_, Sub.refl m, fun _ _ => rfl, st.dr⟩
    have h0 := ((chain_le K.chain K.good).2.2 r hr).1
    cases e : m r.H.next with
    | none => rfl
    | some j => have := (st.rel.fresh _ _ e).1; omega

#print axioms drw_ok
end Go.Ev
