/- A table of a function of the program, by the evaluator: by a program of my own. Part 2. -/
import Derived.Test.YtmibjobpbmidiaaGreatEvFs
import Derived.Test.YtmibjobpbmidiaaGreatEvZb
namespace Go.Proofs.YtmibjobpbmidiaaGreat.Fs
open Go Go.Ev Go.Proofs
set_option maxRecDepth 100000
theorem t66 : ∀ H, exF Tryz.prog (fun _ _ _ => none) fs 100000 (.f 165) [.int .i64 (Int.ofNat 66)] H = some (.int .i64 63, H) := by intro H; kernel_rfl
theorem t67 : ∀ H, exF Tryz.prog (fun _ _ _ => none) fs 100000 (.f 165) [.int .i64 (Int.ofNat 67)] H = some (.int .i64 63, H) := by intro H; kernel_rfl
theorem t68 : ∀ H, exF Tryz.prog (fun _ _ _ => none) fs 100000 (.f 165) [.int .i64 (Int.ofNat 68)] H = some (.int .i64 63, H) := by intro H; kernel_rfl
theorem t69 : ∀ H, exF Tryz.prog (fun _ _ _ => none) fs 100000 (.f 165) [.int .i64 (Int.ofNat 69)] H = some (.int .i64 63, H) := by intro H; kernel_rfl
theorem t70 : ∀ H, exF Tryz.prog (fun _ _ _ => none) fs 100000 (.f 165) [.int .i64 (Int.ofNat 70)] H = some (.int .i64 63, H) := by intro H; kernel_rfl
theorem t71 : ∀ H, exF Tryz.prog (fun _ _ _ => none) fs 100000 (.f 165) [.int .i64 (Int.ofNat 71)] H = some (.int .i64 63, H) := by intro H; kernel_rfl
theorem t72 : ∀ H, exF Tryz.prog (fun _ _ _ => none) fs 100000 (.f 165) [.int .i64 (Int.ofNat 72)] H = some (.int .i64 63, H) := by intro H; kernel_rfl
theorem t73 : ∀ H, exF Tryz.prog (fun _ _ _ => none) fs 100000 (.f 165) [.int .i64 (Int.ofNat 73)] H = some (.int .i64 63, H) := by intro H; kernel_rfl
theorem t74 : ∀ H, exF Tryz.prog (fun _ _ _ => none) fs 100000 (.f 165) [.int .i64 (Int.ofNat 74)] H = some (.int .i64 63, H) := by intro H; kernel_rfl
theorem t75 : ∀ H, exF Tryz.prog (fun _ _ _ => none) fs 100000 (.f 165) [.int .i64 (Int.ofNat 75)] H = some (.int .i64 63, H) := by intro H; kernel_rfl
theorem t76 : ∀ H, exF Tryz.prog (fun _ _ _ => none) fs 100000 (.f 165) [.int .i64 (Int.ofNat 76)] H = some (.int .i64 63, H) := by intro H; kernel_rfl
theorem t77 : ∀ H, exF Tryz.prog (fun _ _ _ => none) fs 100000 (.f 165) [.int .i64 (Int.ofNat 77)] H = some (.int .i64 63, H) := by intro H; kernel_rfl
theorem t78 : ∀ H, exF Tryz.prog (fun _ _ _ => none) fs 100000 (.f 165) [.int .i64 (Int.ofNat 78)] H = some (.int .i64 63, H) := by intro H; kernel_rfl
theorem t79 : ∀ H, exF Tryz.prog (fun _ _ _ => none) fs 100000 (.f 165) [.int .i64 (Int.ofNat 79)] H = some (.int .i64 63, H) := by intro H; kernel_rfl
theorem t80 : ∀ H, exF Tryz.prog (fun _ _ _ => none) fs 100000 (.f 165) [.int .i64 (Int.ofNat 80)] H = some (.int .i64 63, H) := by intro H; kernel_rfl
theorem t81 : ∀ H, exF Tryz.prog (fun _ _ _ => none) fs 100000 (.f 165) [.int .i64 (Int.ofNat 81)] H = some (.int .i64 63, H) := by intro H; kernel_rfl
theorem t82 : ∀ H, exF Tryz.prog (fun _ _ _ => none) fs 100000 (.f 165) [.int .i64 (Int.ofNat 82)] H = some (.int .i64 63, H) := by intro H; kernel_rfl
theorem t83 : ∀ H, exF Tryz.prog (fun _ _ _ => none) fs 100000 (.f 165) [.int .i64 (Int.ofNat 83)] H = some (.int .i64 63, H) := by intro H; kernel_rfl
theorem t84 : ∀ H, exF Tryz.prog (fun _ _ _ => none) fs 100000 (.f 165) [.int .i64 (Int.ofNat 84)] H = some (.int .i64 63, H) := by intro H; kernel_rfl
theorem t85 : ∀ H, exF Tryz.prog (fun _ _ _ => none) fs 100000 (.f 165) [.int .i64 (Int.ofNat 85)] H = some (.int .i64 63, H) := by intro H; kernel_rfl
theorem t86 : ∀ H, exF Tryz.prog (fun _ _ _ => none) fs 100000 (.f 165) [.int .i64 (Int.ofNat 86)] H = some (.int .i64 63, H) := by intro H; kernel_rfl
theorem t87 : ∀ H, exF Tryz.prog (fun _ _ _ => none) fs 100000 (.f 165) [.int .i64 (Int.ofNat 87)] H = some (.int .i64 63, H) := by intro H; kernel_rfl
theorem t88 : ∀ H, exF Tryz.prog (fun _ _ _ => none) fs 100000 (.f 165) [.int .i64 (Int.ofNat 88)] H = some (.int .i64 63, H) := by intro H; kernel_rfl
theorem t89 : ∀ H, exF Tryz.prog (fun _ _ _ => none) fs 100000 (.f 165) [.int .i64 (Int.ofNat 89)] H = some (.int .i64 63, H) := by intro H; kernel_rfl
theorem t90 : ∀ H, exF Tryz.prog (fun _ _ _ => none) fs 100000 (.f 165) [.int .i64 (Int.ofNat 90)] H = some (.int .i64 63, H) := by intro H; kernel_rfl
theorem t91 : ∀ H, exF Tryz.prog (fun _ _ _ => none) fs 100000 (.f 165) [.int .i64 (Int.ofNat 91)] H = some (.int .i64 63, H) := by intro H; kernel_rfl
theorem t92 : ∀ H, exF Tryz.prog (fun _ _ _ => none) fs 100000 (.f 165) [.int .i64 (Int.ofNat 92)] H = some (.int .i64 63, H) := by intro H; kernel_rfl
theorem t93 : ∀ H, exF Tryz.prog (fun _ _ _ => none) fs 100000 (.f 165) [.int .i64 (Int.ofNat 93)] H = some (.int .i64 63, H) := by intro H; kernel_rfl
theorem t94 : ∀ H, exF Tryz.prog (fun _ _ _ => none) fs 100000 (.f 165) [.int .i64 (Int.ofNat 94)] H = some (.int .i64 63, H) := by intro H; kernel_rfl
theorem t95 : ∀ H, exF Tryz.prog (fun _ _ _ => none) fs 100000 (.f 165) [.int .i64 (Int.ofNat 95)] H = some (.int .i64 63, H) := by intro H; kernel_rfl
theorem t96 : ∀ H, exF Tryz.prog (fun _ _ _ => none) fs 100000 (.f 165) [.int .i64 (Int.ofNat 96)] H = some (.int .i64 63, H) := by intro H; kernel_rfl
theorem t97 : ∀ H, exF Tryz.prog (fun _ _ _ => none) fs 100000 (.f 165) [.int .i64 (Int.ofNat 97)] H = some (.int .i64 63, H) := by intro H; kernel_rfl
theorem t98 : ∀ H, exF Tryz.prog (fun _ _ _ => none) fs 100000 (.f 165) [.int .i64 (Int.ofNat 98)] H = some (.int .i64 63, H) := by intro H; kernel_rfl
def tab2 (x : Nat) : Option Int := cond (Nat.blt x 82) (cond (Nat.blt x 74) (cond (Nat.blt x 70) (cond (Nat.blt x 68) (cond (Nat.blt x 67) (cond (Nat.beq x 66) (some 63) none) (cond (Nat.beq x 67) (some 63) none)) (cond (Nat.blt x 69) (cond (Nat.beq x 68) (some 63) none) (cond (Nat.beq x 69) (some 63) none))) (cond (Nat.blt x 72) (cond (Nat.blt x 71) (cond (Nat.beq x 70) (some 63) none) (cond (Nat.beq x 71) (some 63) none)) (cond (Nat.blt x 73) (cond (Nat.beq x 72) (some 63) none) (cond (Nat.beq x 73) (some 63) none)))) (cond (Nat.blt x 78) (cond (Nat.blt x 76) (cond (Nat.blt x 75) (cond (Nat.beq x 74) (some 63) none) (cond (Nat.beq x 75) (some 63) none)) (cond (Nat.blt x 77) (cond (Nat.beq x 76) (some 63) none) (cond (Nat.beq x 77) (some 63) none))) (cond (Nat.blt x 80) (cond (Nat.blt x 79) (cond (Nat.beq x 78) (some 63) none) (cond (Nat.beq x 79) (some 63) none)) (cond (Nat.blt x 81) (cond (Nat.beq x 80) (some 63) none) (cond (Nat.beq x 81) (some 63) none))))) (cond (Nat.blt x 90) (cond (Nat.blt x 86) (cond (Nat.blt x 84) (cond (Nat.blt x 83) (cond (Nat.beq x 82) (some 63) none) (cond (Nat.beq x 83) (some 63) none)) (cond (Nat.blt x 85) (cond (Nat.beq x 84) (some 63) none) (cond (Nat.beq x 85) (some 63) none))) (cond (Nat.blt x 88) (cond (Nat.blt x 87) (cond (Nat.beq x 86) (some 63) none) (cond (Nat.beq x 87) (some 63) none)) (cond (Nat.blt x 89) (cond (Nat.beq x 88) (some 63) none) (cond (Nat.beq x 89) (some 63) none)))) (cond (Nat.blt x 94) (cond (Nat.blt x 92) (cond (Nat.blt x 91) (cond (Nat.beq x 90) (some 63) none) (cond (Nat.beq x 91) (some 63) none)) (cond (Nat.blt x 93) (cond (Nat.beq x 92) (some 63) none) (cond (Nat.beq x 93) (some 63) none))) (cond (Nat.blt x 96) (cond (Nat.blt x 95) (cond (Nat.beq x 94) (some 63) none) (cond (Nat.beq x 95) (some 63) none)) (cond (Nat.blt x 97) (cond (Nat.beq x 96) (some 63) none) (cond (Nat.blt x 98) (cond (Nat.beq x 97) (some 63) none) (cond (Nat.beq x 98) (some 63) none))))))
theorem tab2_ok : TabOk Tryz.prog fs 100000 165 tab2 := TabOk.node (TabOk.node (TabOk.node (TabOk.node (TabOk.node (TabOk.leaf t66) (TabOk.leaf t67)) (TabOk.node (TabOk.leaf t68) (TabOk.leaf t69))) (TabOk.node (TabOk.node (TabOk.leaf t70) (TabOk.leaf t71)) (TabOk.node (TabOk.leaf t72) (TabOk.leaf t73)))) (TabOk.node (TabOk.node (TabOk.node (TabOk.leaf t74) (TabOk.leaf t75)) (TabOk.node (TabOk.leaf t76) (TabOk.leaf t77))) (TabOk.node (TabOk.node (TabOk.leaf t78) (TabOk.leaf t79)) (TabOk.node (TabOk.leaf t80) (TabOk.leaf t81))))) (TabOk.node (TabOk.node (TabOk.node (TabOk.node (TabOk.leaf t82) (TabOk.leaf t83)) (TabOk.node (TabOk.leaf t84) (TabOk.leaf t85))) (TabOk.node (TabOk.node (TabOk.leaf t86) (TabOk.leaf t87)) (TabOk.node (TabOk.leaf t88) (TabOk.leaf t89)))) (TabOk.node (TabOk.node (TabOk.node (TabOk.leaf t90) (TabOk.leaf t91)) (TabOk.node (TabOk.leaf t92) (TabOk.leaf t93))) (TabOk.node (TabOk.node (TabOk.leaf t94) (TabOk.leaf t95)) (TabOk.node (TabOk.leaf t96) (TabOk.node (TabOk.leaf t97) (TabOk.leaf t98))))))
end Go.Proofs.YtmibjobpbmidiaaGreat.Fs
