/-
  A machine-free evaluator for calls ('Go.Ev'): calls. Own work.
-/
import Derived.Test.YtmibjobpbmidiaaGreatEvY
import Derived.Laws.Sem
namespace Go.Ev
set_option linter.unusedSimpArgs false
set_option linter.unusedVariables false
open Go Go.RowKit Go.MapKept
variable {P : Program}

/-! ### What is put into the temporaries at first -/

theorem foldl_size : ∀ (l : List (Nat × Value)) (A : Array Value), (l.foldl (fun tm x => tm.setIfInBounds x.1 x.2) A).size = A.size
  | [], _ => rfl
  | x :: l, A => by rw [List.foldl_cons, foldl_size l]; simp

theorem sound_setPs {m : Mp} {d n : Nat} : ∀ {ps : List Nat} {args args' : List Value} {T : TT} {A : Array Value}, TR m d n T A → (∀ p ∈ ps, p < n) → VRs m args args' → args.length = ps.length →
    TR m d n (setPs T (ps.map (pa d)) args) ((ps.zip args').foldl (fun tm x => tm.setIfInBounds x.1 x.2) A)
  | [], args, args', T, A, h, _, _, _ => by
    cases args with
    | nil => exact h
    | cons => exact h
  | p :: ps, [], args', T, A, _, _, _, hl => by cases hl
  | p :: ps, v :: vs, [], T, A, _, _, hv, _ => by have := hv.1; cases this
  | p :: ps, v :: vs, v' :: vs', T, A, h, hp, hv, hl => by
    have h1 : VR m v v' := by simpa using hv.2 0
    have h2 : VRs m vs vs' := ⟨by simpa using hv.1, fun j => by simpa using hv.2 (j + 1)⟩
    show TR m d n (setPs (T.set (pa d p) v) (ps.map (pa d)) vs) ((ps.zip vs').foldl (fun tm x => tm.setIfInBounds x.1 x.2) (A.setIfInBounds p v'))
    exact sound_setPs (h.set (hp p (by simp)) h1) (fun q hq => hp q (by simp [hq])) h2 (by simpa using hl)

theorem foldl_range (l : List Value) : ∀ (s : Nat) (A : Array Value) (t : Nat), s + l.length ≤ A.size →
    (((List.range' s l.length).zip l).foldl (fun tm x => tm.setIfInBounds x.1 x.2) A)[t]? = if s ≤ t ∧ t < s + l.length then l[t - s]? else A[t]? := by
  induction l with
  | nil => intro s A t _; have : ¬ (s ≤ t ∧ t < s + 0) := by omega
           simp only [List.length_nil]
           rw [if_neg this]
           rfl
  | cons v l ih =>
    intro s A t h
    simp only [List.length_cons] at h ⊢
    rw [List.range'_succ, List.zip_cons_cons, List.foldl_cons, ih (s + 1) _ t (by simp; omega)]
    by_cases h1 : s + 1 ≤ t ∧ t < s + 1 + l.length
    · rw [if_pos h1, if_pos (by omega), show t - s = (t - (s + 1)) + 1 by omega, List.getElem?_cons_succ]
    · rw [if_neg h1, Array.getElem?_setIfInBounds]
      by_cases h2 : s = t
      · subst h2
        rw [if_pos rfl, if_pos (by omega), if_pos (by omega)]
        simp
      · rw [if_neg h2, if_neg (by omega)]

theorem first_tmps {args : Array Value} {n : Nat} (h : args.size ≤ n) :
    ((List.range args.size).zip args.toList).foldl (fun tm x => tm.setIfInBounds x.1 x.2) (Array.replicate n undef) = args ++ Array.replicate (n - args.size) undef := by
  apply Array.ext_getElem?
  intro t
  have := foldl_range args.toList 0 (Array.replicate n undef) t (by simp; exact h)
  simp only [Array.length_toList] at this
  rw [List.range_eq_range', this]
  by_cases h1 : t < args.size
  · rw [if_pos (by omega), Array.getElem?_append_left h1]
    simp
  · rw [if_neg (by omega), Array.getElem?_append_right (by omega), Array.getElem?_replicate, Array.getElem?_replicate]
    by_cases h2 : t < n
    · rw [if_pos h2, if_pos (by omega)]
    · rw [if_neg h2, if_neg (by omega)]

theorem tr_empty (m : Mp) {d n : Nat} (h : n ≤ 2 ^ d) : TR m d n .lf (Array.replicate n undef) := by
  refine ⟨by simp, h, fun t ht => ?_⟩
  have e : ∀ p : Pa, TT.lf.get p = undef := by
    intro p
    induction p with
    | e => rfl
    | l p ih => exact ih
    | r p ih => exact ih
  rw [e]
  rw [Array.getD_eq_getD_getElem?, Array.getElem?_replicate, if_pos ht]
  exact VR.undef m

/-! ### Results -/

def resSem (tmps : Array Value) : ResultVar → Sem Value
  | .tmp t => pure (tmps.getD t undef)
  | .cell c t => do loadVar t (← asAddr (tmps.getD c undef))

theorem results_eq (fn : Func) (tmps : Array Value) : results fn tmps = (do let vs ← fn.results.mapM (resSem tmps); pure (if h : vs.size = 1 then vs[0] else .tuple vs)) := rfl

theorem sound_rv {B : Nat} {W w : World} {m : Mp} {H : Heap} (hr : Rel P B W w m H) {d n : Nat} {T : TT} {a : Act} (ht : TR m d n T a.tmps) {r : ResultVar} {rv : RV} (hc : compRV P d n r = some rv) {v : Value} {l : List RV} {vs0 : List Value} (he : exRes T H (rv :: l) = some vs0) :
    ∃ v vs, vs0 = v :: vs ∧ exRes T H l = some vs ∧ ∃ v', (resSem a.tmps r).run P w = .ok v' w ∧ VR m v v' := by
  cases r with
  | tmp t =>
    obtain ⟨h1, h2⟩ := cond_some hc
    cases h2
    simp only [blt_dec, decide_eq_true_eq] at h1
    simp only [exRes] at he
    split at he
    · rename_i vs hvs
      cases he
      exact ⟨_, _, rfl, hvs, _, rfl, ht.get t h1⟩
    · cases he
  | cell c t =>
    simp only [compRV] at hc
    split at hc
    · rename_i ag s hag hsz
      obtain ⟨h1, h2⟩ := cond_some hc
      simp only [blt_dec, decide_eq_true_eq] at h1
      have hrv : rv = .cell (pa d c) (cond ag s 1) ag := by cases ag <;> cases h2 <;> rfl
      subst hrv
      simp only [exRes] at he
      split at he
      · rename_i v0 vs hv0 hvs
        cases he
        obtain ⟨v', e1, e2⟩ := sound_load hr hag hsz (ht.get c h1) hv0
        refine ⟨_, _, rfl, hvs, v', ?_, e2⟩
        have hp : ∃ ad, T.get (pa d c) = .pointer (some ad) := by
          unfold q_load at hv0
          split at hv0
          · exact ⟨_, by assumption⟩
          · cases hv0
        obtain ⟨ad, had⟩ := hp
        have hx := ht.get c h1
        rw [had] at hx
        show (do loadVar t (← asAddr (a.tmps.getD c undef)) : Sem Value).run P w = _
        generalize a.tmps.getD c undef = x at hx e1 ⊢
        cases hx with
        | ptr hm => simpa [Instr.loadAt, Instr.sureAddr, asAddr] using e1
      · cases he
    · cases hc

theorem sound_rvs {B : Nat} {W w : World} {m : Mp} {H : Heap} (hr : Rel P B W w m H) {d n : Nat} {T : TT} {a : Act} (ht : TR m d n T a.tmps) : ∀ {rs : List ResultVar} {l : List RV} {vs : List Value}, rs.mapM (compRV P d n) = some l → exRes T H l = some vs →
    ∃ vs', (rs.mapM (resSem a.tmps)).run P w = .ok vs' w ∧ VRs m vs vs'
  | [], l, vs, hc, he => by
    cases hc
    cases he
    exact ⟨[], by simp, VRs.nil m⟩
  | r :: rs, l, vs, hc, he => by
    rw [List.mapM_cons] at hc
    cases h1 : compRV P d n r with
    | none => rw [h1] at hc; cases hc
    | some rv =>
      cases h2 : rs.mapM (compRV P d n) with
      | none => rw [h1, h2] at hc; cases hc
      | some l2 =>
        rw [h1, h2] at hc
        cases hc
        obtain ⟨v, vs1, rfl, he1, v', e1, e2⟩ := sound_rv hr ht h1 (v := undef) he
        obtain ⟨vs', e3, e4⟩ := sound_rvs hr ht h2 he1
        refine ⟨v' :: vs', ?_, VRs.cons e2 e4⟩
        rw [List.mapM_cons, Sem.run_bind, e1]
        simp only [Result.andThen]
        rw [Sem.run_bind, e3]
        rfl

theorem resV_rel {m : Mp} {vs vs' : List Value} (h : VRs m vs vs') : VR m (resV vs) (if h : vs'.toArray.size = 1 then vs'.toArray[0] else .tuple vs'.toArray) := by
  cases vs with
  | nil =>
    cases vs' with
    | nil => exact VR.undef m
    | cons => cases h.1
  | cons v l =>
    cases vs' with
    | nil => cases h.1
    | cons v' l' =>
      have h0 : VR m v v' := by simpa using h.2 0
      cases l with
      | nil =>
        cases l' with
        | nil => exact h0
        | cons => have := h.1; simp at this
      | cons x l =>
        have hl : ¬ ((v' :: l').toArray.size = 1) := by
          have := h.1; simp at this ⊢; intro e; rw [e] at this; simp at this
        rw [dif_neg hl]
        show VR m (.tuple (v :: x :: l).toArray) _
        exact .tuple _ _ (by simpa using h.1) fun j _ => by simpa [Array.getD_eq_getD_getElem?, List.getD_eq_getElem?_getD] using h.2 j

end Go.Ev
