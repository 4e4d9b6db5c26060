/-
  'ModelNil': the law hands back true whatever its two arguments: by the evaluator; and its row. Own work.
-/
import Derived.Test.YtmibjobpbmidiaaGreatRows
import Derived.Test.YtmibjobpbmidiaaGreatEvNil
import Derived.Test.YtmibjobpbmidiaaGreatEvR
import Derived.WalkKit
namespace Go.Proofs.YtmibjobpbmidiaaGreat.modelNil
open Go Go.Ev Go.ChangeShapes Go.WideShapes Go.ChangeAt Go.RowKit Go.Proofs.YtmibjobpbmidiaaGreat.Fs

theorem laidOut : laidOutB Tryz.prog = true := by kernel_rfl
theorem own : ownKnob Tryz.prog.godebug = none := by kernel_rfl

theorem rel_one (W : World) (b off : Nat) (hb : b < W.heap.size) : Ev.Rel Tryz.prog W.heap.size W W (fun k => if k = 0 then some ⟨b, off, off, 0⟩ else none) ⟨.lf, 1⟩ := by
  refine ⟨Below.refl _ W, Nat.le_refl _, ?_, ?_, ?_, ?_, ?_, by decide, trivial⟩
  · intro id o i h hm; cases h
  · intro id o i h hm; cases h
  · intro id o i h hm; cases h
  · intro id id' o o' i i' h; cases h
  · intro id i hm
    by_cases e : id = 0
    · subst e
      simp only [if_true, Option.some.injEq] at hm
      subst hm
      exact ⟨Nat.zero_lt_one, hb⟩
    · rw [if_neg e] at hm; cases hm

theorem rel_none (W : World) : Ev.Rel Tryz.prog W.heap.size W W (fun _ => none) ⟨.lf, 1⟩ := by
  refine ⟨Below.refl _ W, Nat.le_refl _, ?_, ?_, ?_, ?_, ?_, by decide, trivial⟩
  · intro id o i h hm; cases h
  · intro id o i h hm; cases h
  · intro id o i h hm; cases h
  · intro id id' o o' i i' h; cases h
  · intro id i hm; cases hm

theorem calls_of {W : World} {m : Mp} {tv tv' nv : Value} (hr : Ev.Rel Tryz.prog W.heap.size W W m ⟨.lf, 1⟩) (h0 : VR m tv tv') (h1 : VR m nv nv) : Calls Tryz.prog 7 #[tv', nv] W fun e w' => e = .returned (.bool true) ∧ Below W.heap.size W w' := by
  have h := nil_run tv nv
  have he : ∃ H', exF Tryz.prog (memo2 132 2 btp btn) fs 100000 (.f 7) [tv, nv] ⟨.lf, 1⟩ = some (.bool true, H') := by
    unfold saysTrue at h
    split at h
    · exact ⟨_, by assumption⟩
    · cases h
  obtain ⟨H', he⟩ := he
  obtain ⟨_, hc⟩ := (told_exF fs_ok base2_ok (fun c Tc => drw_ok mixed c Tc) 100000).fn hr (args' := #[tv', nv]) (VRs.cons h0 (VRs.cons h1 (VRs.nil _))) he
  refine Calls.mono (callsIn_wide.1 hc) ?_
  rintro e w' ⟨v', rfl, m', k1, k2, _⟩
  exact ⟨by rw [k1.bool_eq], k2.below⟩

theorem walk (W : World) (v0 : Value) (n : Int) (h : v0 = .slice none 0 0 ∨ ∃ a len cap, v0 = .slice (some a) len cap ∧ a.spot = none ∧ a.block < W.heap.size ∧ len ≤ cap) :
    Calls Tryz.prog 7 #[v0, .int .i64 n] W fun e w' => e = .returned (.bool true) ∧ Below W.heap.size W w' := by
  rcases h with rfl | ⟨⟨b, off, spot⟩, len, cap, rfl, hs, hb, hl⟩
  · exact calls_of (rel_none W) .sl0 (.int _ _)
  · simp only at hs hb
    subst hs
    exact calls_of (rel_one W b off hb) (VR.slU (b := 0) (o := 0) (i := ⟨b, off, off, 0⟩) (by simp) hl (by simp) (.inl rfl)) (.int _ _)

set_option maxRecDepth 100000 in
theorem contract (H : Type) (enc : TypeId × Value → H) (W : World) (base : Nat) (args : Array Value) (ds gs : List (DataW H)) (before : List MemPlace)
    (hval : ∀ (j : Nat) t v, Tryz.f7.params[j]? = some t → args[j]? = some v → Value.okWide Tryz.prog W .any base t v)
    (hW : DataW.Whole enc Tryz.prog Tryz.f7.params.toList Rows.modelNilSpec.vars false W args.toList ds gs before) :
    Calls Tryz.prog 7 args W fun e W' => ∃ v, e = .returned v ∧ Rows.modelNilSpec.post enc Tryz.prog Tryz.f7 false true false false W args v W' := by
  have hW' := hW
  obtain ⟨p, q, hA0, hV, rfl, hfz, hnd⟩ := hW
  have hA : DataW.TrodAll enc Tryz.prog W 0 (fun _ => true) true Tryz.f7.params.toList args.toList ds p := hA0
  have hpar := Tryz.params7
  rw [hpar] at hA hval
  obtain ⟨v0, vs0, d0, ds0, p0, q0, hargs, rfl, rfl, h0, r0⟩ := trodAll_cons hA
  obtain ⟨v1, vs1, d1, ds1, p1, q1, rfl, rfl, rfl, h1, r1⟩ := trodAll_cons r0
  obtain ⟨rfl, rfl, rfl⟩ := trodAll_nil r1
  obtain rfl : args = #[v0, v1] := by cases args; simp_all
  obtain ⟨rfl, rfl⟩ := trodVars_none hV
  obtain ⟨n, rfl, rfl, rfl, w1⟩ := open_int Tryz.underlying3 (hval 1 3 v1 rfl rfl) h1
  have hv0 := hval 0 32 v0 rfl rfl
  have hs : v0 = .slice none 0 0 ∨ ∃ a len cap, v0 = .slice (some a) len cap ∧ a.spot = none ∧ a.block < W.heap.size ∧ len ≤ cap := by
    obtain ⟨a, len, cap, rfl⟩ := okWide_slice Tryz.underlying32 hv0
    have hc : Cell.ok Tryz.prog W .any base 32 (.slice a len cap) := by
      simpa [Value.okWide, Cell.okWide, Tryz.underlying32] using hv0
    cases a with
    | none =>
      left
      unfold Cell.ok at hc
      rw [Tryz.underlying32] at hc
      split at hc <;> simp_all
    | some a =>
      right
      have hc' : len ≤ cap ∧ (cap : Int) ≤ IntKind.i64.max ∧ W.has Tryz.prog .any base a 3 cap := by
        simpa [Cell.ok, Tryz.underlying32] using hc
      obtain ⟨k1, _, _, k2, row, cells, k3, _⟩ := hc'
      refine ⟨a, len, cap, rfl, k2, ?_, k1⟩
      rcases Nat.lt_or_ge a.block W.heap.size with hlt | hge
      · exact hlt
      · simp [World.shape?, Array.getElem?_eq_none hge] at k3
  clear hA0
  simp only [List.append_nil] at hW'
  refine (walk W v0 n hs).mono fun e W' ⟨he, hg⟩ => ?_
  subst he
  refine ⟨_, rfl, post_below (gs := []) laidOut ?_ hW' rfl hg (fun _ _ _ => trodAll_cons_mk (shut_bool Tryz.underlying4 _) trodAll_mk0) rfl rfl (ok_one (by kernel_rfl) rfl (okWide_bool_mk Tryz.underlying4 _))⟩
  rw [hpar]
  intro t ht
  simp only [List.mem_cons, List.not_mem_nil, or_false] at ht
  rcases ht with rfl | rfl
  · exact ⟨by kernel_rfl, of_decide_eq_true (by kernel_rfl)⟩
  · exact ⟨by kernel_rfl, of_decide_eq_true (by kernel_rfl)⟩

set_option maxRecDepth 100000 in
theorem lifted (os : Os) (started : os.Started) (H : Type) (enc : TypeId × Value → H) :
    ReturnsInHanded {} Tryz.checked os 7 .any (Rows.modelNilSpec.pre6 enc Tryz.prog Tryz.f7 Rows.modelNilRow.domain false) (Rows.modelNilSpec.post enc Tryz.prog Tryz.f7 false true false false) := by
  refine returnsInHanded_of_change (C := Tryz.checked) own started (by kernel_rfl) Tryz.func7
    (ChangeSpec.witness6 (enc := enc) (C := Tryz.checked) false ⟨#[], #[.slice none 0 0, .int .i64 0], []⟩ 8 (by kernel_rfl) (by kernel_rfl) (by kernel_rfl) (by kernel_rfl)) ?_
  intro W base args ds gs before hval hW _ _
  exact contract H enc W base args ds gs before hval hW

theorem over : Rows.modelNilRow.holds Tryz.pinned (OpenSpec.ofChange Rows.modelNilSpec) :=
  OpenClaim.holds_of_wide 7 Tryz.f7 rfl rfl rfl rfl rfl rfl rfl ⟨rfl, rfl, rfl, rfl, rfl⟩ rfl rfl rfl rfl rfl (by kernel_rfl) Tryz.func7 (by kernel_rfl)
    (of_decide_eq_true (by kernel_rfl)) (by unfold Func.isWrapper; first | (rw [if_pos (by decide +kernel)]; kernel_rfl) | (rw [if_neg (by decide +kernel)]; exact ⟨rfl, rfl⟩))
    (fun os started H enc _ => lifted os started H enc)

theorem proved : Rows.ModelNilSaid := over
#print axioms proved
end Go.Proofs.YtmibjobpbmidiaaGreat.modelNil
