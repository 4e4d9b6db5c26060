/- What awake comes to. -/
import Derived.Test.YtmibjobpbmidiaaGreatEvN0
import Derived.Test.YtmibjobpbmidiaaGreatEvN1
import Derived.Test.YtmibjobpbmidiaaGreatEvN2
import Derived.Test.YtmibjobpbmidiaaGreatEvN3
namespace Go.Proofs.YtmibjobpbmidiaaGreat.Fs
open Go Go.Ev Go.Proofs
set_option maxRecDepth 1000000
def btp (x : Nat) : Option Int := cond (Nat.blt x 64) (btab0 x) (btab1 x)
def btn (x : Nat) : Option Int := cond (Nat.blt x 64) (btab2 x) (btab3 x)
theorem base2_ok : Go.Ev.Told Tryz.prog (memo2 132 2 btp btn) := told_memo2 (Tab2Ok.node btab0_ok btab1_ok) (Tab2Ok.node btab2_ok btab3_ok) base_ok fs_ok mixed
theorem awake_run : saysTrue (exF Tryz.prog (memo2 132 2 btp btn) fs 100000 (.f 11) [] Heap.empty) = true := by kernel_rfl
theorem awake_calls (w : World) : Calls Tryz.prog 11 #[] w (fun e w' => e = .returned (.bool true) ∧ Go.RowKit.Below w.heap.size w w') := calls_true fs_ok base2_ok mixed awake_run w
#print axioms awake_calls
end Go.Proofs.YtmibjobpbmidiaaGreat.Fs
