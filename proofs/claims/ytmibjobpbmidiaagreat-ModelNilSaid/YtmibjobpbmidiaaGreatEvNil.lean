/- What ModelNil comes to, whatever its arguments. -/
import Derived.Test.YtmibjobpbmidiaaGreatEvAw
namespace Go.Proofs.YtmibjobpbmidiaaGreat.Fs
open Go Go.Ev Go.Proofs
set_option maxRecDepth 1000000
theorem nil_run (tv nv : Value) : saysTrue (exF Tryz.prog (memo2 132 2 btp btn) fs 100000 (.f 7) [tv, nv] ⟨.lf, 1⟩) = true := by kernel_rfl
#print axioms nil_run
end Go.Proofs.YtmibjobpbmidiaaGreat.Fs
