/-
  A machine-free evaluator for calls ('Go.Ev'): what a closed call comes to; calls that are known already. Own work.
-/
import Derived.Test.YtmibjobpbmidiaaGreatEvZa
import Derived.Test.YtmibjobpbmidiaaGreatEvDd
namespace Go.Ev
set_option linter.unusedSimpArgs false
set_option linter.unusedVariables false
open Go Go.RowKit Go.MapKept
variable {P : Program}

theorem FsOk.leaf {k : FuncId} {c : F} {fn : Func} (h1 : P.funcs[k]? = some fn) (h2 : compF P fn = some c) : FsOk P (fun f => cond (Nat.beq f k) (some c) none) := by
  intro f c' h
  obtain ⟨e1, e2⟩ := cond_some h
  cases e2
  rw [beq_iff, decide_eq_true_iff] at e1
  subst e1
  exact ⟨fn, h1, h2⟩
theorem FsOk.node {k : Nat} {g h : FuncId → Option F} (hg : FsOk P g) (hh : FsOk P h) : FsOk P (fun f => cond (Nat.blt f k) (g f) (h f)) := by
  intro f c hc
  cases hb : Nat.blt f k with
  | true => simp only [hb, cond_true] at hc; exact hg f c hc
  | false => simp only [hb, cond_false] at hc; exact hh f c hc

/-- A table of a function of one whole number. -/
def TabOk (P : Program) (fs : FuncId → Option F) (n : Nat) (fid : FuncId) (g : Nat → Option Int) : Prop :=
  ∀ x q, g x = some q → ∀ H, exF P (fun _ _ _ => none) fs n (.f fid) [.int .i64 (Int.ofNat x)] H = some (.int .i64 q, H)
theorem TabOk.leaf {fs : FuncId → Option F} {n : Nat} {fid : FuncId} {k : Nat} {q : Int} (h : ∀ H, exF P (fun _ _ _ => none) fs n (.f fid) [.int .i64 (Int.ofNat k)] H = some (.int .i64 q, H)) : TabOk P fs n fid (fun x => cond (Nat.beq x k) (some q) none) := by
  intro x q' hx
  obtain ⟨e1, e2⟩ := cond_some hx
  cases e2
  rw [beq_iff, decide_eq_true_iff] at e1
  subst e1
  exact h
theorem TabOk.node {fs : FuncId → Option F} {n : Nat} {fid : FuncId} {k : Nat} {g h : Nat → Option Int} (hg : TabOk P fs n fid g) (hh : TabOk P fs n fid h) : TabOk P fs n fid (fun x => cond (Nat.blt x k) (g x) (h x)) := by
  intro x q hc
  cases hb : Nat.blt x k with
  | true => simp only [hb, cond_true] at hc; exact hg x q hc
  | false => simp only [hb, cond_false] at hc; exact hh x q hc

noncomputable section
def tabV (H : Heap) : Option Int → Option (Value × Heap)
  | some q => some (.int .i64 q, H)
  | none => none
def tabN (tab : Nat → Option Int) (H : Heap) : Int → Option (Value × Heap)
  | .ofNat x => tabV H (tab x)
  | _ => none
def tabA (tab : Nat → Option Int) (H : Heap) : List Value → Option (Value × Heap)
  | [.int .i64 n] => tabN tab H n
  | _ => none
/-- A function whose values are known. -/
def memo (fid : FuncId) (tab : Nat → Option Int) : ExF := fun t args H => match t with
  | .f f => cond (Nat.beq f fid) (tabA tab H args) none
  | .y _ => none
end

theorem told_sub {b b' : ExF} (h : ∀ t args H r, b t args H = some r → b' t args H = some r) (T : Told P b') : Told P b := by
  constructor
  · intro B W w m H H' f args args' v hr hv he
    exact T.fn hr hv (h _ _ _ _ he)
  · intro B W w m H H' l i args args' v hr hv he hm
    exact T.yl hr hv (h _ _ _ _ he) hm

theorem told_memo {fs : FuncId → Option F} {n : Nat} {fid : FuncId} {tab : Nat → Option Int} (h : TabOk P fs n fid tab) (hfs : FsOk P fs) (hm : P.follows .mixedOrders = true) : Told P (memo fid tab) := by
  refine told_sub ?_ (told_exF hfs told_none (fun c Tc => drw_ok hm c Tc) n)
  intro t args H r he
  unfold memo at he
  split at he
  · rename_i f
    obtain ⟨e1, e2⟩ := cond_some he
    rw [beq_iff, decide_eq_true_iff] at e1
    subst e1
    unfold tabA at e2
    split at e2
    · unfold tabN at e2
      split at e2
      · rename_i x
        cases ht : tab x with
        | none => rw [ht] at e2; cases e2
        | some q =>
          rw [ht] at e2
          cases e2
          exact h x q ht H
      · cases e2
    · cases e2
  · cases he

/-- A table of a function of a fixed first number and a whole one, told apart by its sign. -/
def Tab2Ok (P : Program) (base : ExF) (fs : FuncId → Option F) (n : Nat) (fid : FuncId) (a : Int) (mk : Nat → Int) (g : Nat → Option Int) : Prop :=
  ∀ x q, g x = some q → ∀ H, exF P base fs n (.f fid) [.int .i64 a, .int .i64 (mk x)] H = some (.int .i8 q, H)
theorem Tab2Ok.leaf {base : ExF} {fs : FuncId → Option F} {n : Nat} {fid : FuncId} {a : Int} {mk : Nat → Int} {k : Nat} {q : Int} (h : ∀ H, exF P base fs n (.f fid) [.int .i64 a, .int .i64 (mk k)] H = some (.int .i8 q, H)) : Tab2Ok P base fs n fid a mk (fun x => cond (Nat.beq x k) (some q) none) := by
  intro x q' hx
  obtain ⟨e1, e2⟩ := cond_some hx
  cases e2
  rw [beq_iff, decide_eq_true_iff] at e1
  subst e1
  exact h
theorem Tab2Ok.node {base : ExF} {fs : FuncId → Option F} {n : Nat} {fid : FuncId} {a : Int} {mk : Nat → Int} {k : Nat} {g h : Nat → Option Int} (hg : Tab2Ok P base fs n fid a mk g) (hh : Tab2Ok P base fs n fid a mk h) : Tab2Ok P base fs n fid a mk (fun x => cond (Nat.blt x k) (g x) (h x)) := by
  intro x q hc
  cases hb : Nat.blt x k with
  | true => simp only [hb, cond_true] at hc; exact hg x q hc
  | false => simp only [hb, cond_false] at hc; exact hh x q hc

noncomputable section
def tab2V (H : Heap) : Option Int → Option (Value × Heap)
  | some q => some (.int .i8 q, H)
  | none => none
def tab2N (tp tn : Nat → Option Int) (H : Heap) : Int → Option (Value × Heap)
  | .ofNat x => tab2V H (tp x)
  | .negSucc x => tab2V H (tn x)
def tab2A (a : Int) (tp tn : Nat → Option Int) (H : Heap) : List Value → Option (Value × Heap)
  | [.int .i64 b, .int .i64 n] => cond (decide (b = a)) (tab2N tp tn H n) none
  | _ => none
def memo2 (fid : FuncId) (a : Int) (tp tn : Nat → Option Int) : ExF := fun t args H => match t with
  | .f f => cond (Nat.beq f fid) (tab2A a tp tn H args) none
  | .y _ => none
end

theorem told_memo2 {base : ExF} {fs : FuncId → Option F} {n : Nat} {fid : FuncId} {a : Int} {tp tn : Nat → Option Int} (hp : Tab2Ok P base fs n fid a Int.ofNat tp) (hn : Tab2Ok P base fs n fid a Int.negSucc tn) (hb : Told P base) (hfs : FsOk P fs) (hm : P.follows .mixedOrders = true) : Told P (memo2 fid a tp tn) := by
  refine told_sub ?_ (told_exF hfs hb (fun c Tc => drw_ok hm c Tc) n)
  intro t args H r he
  unfold memo2 at he
  split at he
  · rename_i f
    obtain ⟨e1, e2⟩ := cond_some he
    rw [beq_iff, decide_eq_true_iff] at e1
    subst e1
    unfold tab2A at e2
    split at e2
    · rename_i b x
      obtain ⟨e3, e4⟩ := cond_some e2
      rw [decide_eq_true_iff] at e3
      subst e3
      unfold tab2N at e4
      split at e4
      · rename_i x
        cases ht : tp x with
        | none => rw [ht] at e4; cases e4
        | some q => rw [ht] at e4; cases e4; exact hp x q ht H
      · rename_i x
        cases ht : tn x with
        | none => rw [ht] at e4; cases e4
        | some q => rw [ht] at e4; cases e4; exact hn x q ht H
    · cases e2
  · cases he

theorem rel_empty (w : World) : Rel P w.heap.size w w (fun _ => none) Heap.empty := by
  refine ⟨Below.refl _ w, Nat.le_refl _, ?_, ?_, ?_, ?_, ?_, by decide, Heap.ok_empty⟩
  · intro id o i h hm; cases hm
  · intro id o i h hm; cases hm
  · intro id o i h hm; cases hm
  · intro id id' o o' i i' h h' r r' hm; cases hm
  · intro id i hm; cases hm

noncomputable def saysTrue : Option (Value × Heap) → Bool
  | some (.bool true, _) => true
  | _ => false

/-- A closed call that hands back true. -/
theorem calls_true {base : ExF} {fs : FuncId → Option F} (hfs : FsOk P fs) (hb : Told P base) (hm : P.follows .mixedOrders = true) {n : Nat} {f : FuncId} (h : saysTrue (exF P base fs n (.f f) [] Heap.empty) = true) (w : World) :
    Calls P f #[] w (fun e w' => e = .returned (.bool true) ∧ Below w.heap.size w w') := by
  have he : ∃ H', exF P base fs n (.f f) [] Heap.empty = some (.bool true, H') := by
    unfold saysTrue at h
    split at h
    · exact ⟨_, by assumption⟩
    · cases h
  obtain ⟨H', he⟩ := he
  obtain ⟨_, hc⟩ := (told_exF hfs hb (fun c Tc => drw_ok hm c Tc) n).fn (rel_empty w) (args' := #[]) (VRs.nil _) he
  refine Calls.mono (callsIn_wide.1 hc) ?_
  rintro e w' ⟨v', rfl, m', h1, h2, _⟩
  exact ⟨by rw [h1.bool_eq], h2.below⟩

end Go.Ev
