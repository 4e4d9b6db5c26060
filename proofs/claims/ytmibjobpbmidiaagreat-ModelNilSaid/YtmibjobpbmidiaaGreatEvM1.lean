/- A table of a function of the program, by the evaluator: by a program of my own. Part 1. -/
import Derived.Test.YtmibjobpbmidiaaGreatEvFs
import Derived.Test.YtmibjobpbmidiaaGreatEvZb
namespace Go.Proofs.YtmibjobpbmidiaaGreat.Fs
open Go Go.Ev Go.Proofs
set_option maxRecDepth 100000
theorem t33 : ∀ H, exF Tryz.prog (fun _ _ _ => none) fs 100000 (.f 165) [.int .i64 (Int.ofNat 33)] H = some (.int .i64 60, H) := by intro H; kernel_rfl
theorem t34 : ∀ H, exF Tryz.prog (fun _ _ _ => none) fs 100000 (.f 165) [.int .i64 (Int.ofNat 34)] H = some (.int .i64 60, H) := by intro H; kernel_rfl
theorem t35 : ∀ H, exF Tryz.prog (fun _ _ _ => none) fs 100000 (.f 165) [.int .i64 (Int.ofNat 35)] H = some (.int .i64 61, H) := by intro H; kernel_rfl
theorem t36 : ∀ H, exF Tryz.prog (fun _ _ _ => none) fs 100000 (.f 165) [.int .i64 (Int.ofNat 36)] H = some (.int .i64 61, H) := by intro H; kernel_rfl
theorem t37 : ∀ H, exF Tryz.prog (fun _ _ _ => none) fs 100000 (.f 165) [.int .i64 (Int.ofNat 37)] H = some (.int .i64 61, H) := by intro H; kernel_rfl
theorem t38 : ∀ H, exF Tryz.prog (fun _ _ _ => none) fs 100000 (.f 165) [.int .i64 (Int.ofNat 38)] H = some (.int .i64 61, H) := by intro H; kernel_rfl
theorem t39 : ∀ H, exF Tryz.prog (fun _ _ _ => none) fs 100000 (.f 165) [.int .i64 (Int.ofNat 39)] H = some (.int .i64 61, H) := by intro H; kernel_rfl
theorem t40 : ∀ H, exF Tryz.prog (fun _ _ _ => none) fs 100000 (.f 165) [.int .i64 (Int.ofNat 40)] H = some (.int .i64 62, H) := by intro H; kernel_rfl
theorem t41 : ∀ H, exF Tryz.prog (fun _ _ _ => none) fs 100000 (.f 165) [.int .i64 (Int.ofNat 41)] H = some (.int .i64 62, H) := by intro H; kernel_rfl
theorem t42 : ∀ H, exF Tryz.prog (fun _ _ _ => none) fs 100000 (.f 165) [.int .i64 (Int.ofNat 42)] H = some (.int .i64 62, H) := by intro H; kernel_rfl
theorem t43 : ∀ H, exF Tryz.prog (fun _ _ _ => none) fs 100000 (.f 165) [.int .i64 (Int.ofNat 43)] H = some (.int .i64 62, H) := by intro H; kernel_rfl
theorem t44 : ∀ H, exF Tryz.prog (fun _ _ _ => none) fs 100000 (.f 165) [.int .i64 (Int.ofNat 44)] H = some (.int .i64 62, H) := by intro H; kernel_rfl
theorem t45 : ∀ H, exF Tryz.prog (fun _ _ _ => none) fs 100000 (.f 165) [.int .i64 (Int.ofNat 45)] H = some (.int .i64 62, H) := by intro H; kernel_rfl
theorem t46 : ∀ H, exF Tryz.prog (fun _ _ _ => none) fs 100000 (.f 165) [.int .i64 (Int.ofNat 46)] H = some (.int .i64 62, H) := by intro H; kernel_rfl
theorem t47 : ∀ H, exF Tryz.prog (fun _ _ _ => none) fs 100000 (.f 165) [.int .i64 (Int.ofNat 47)] H = some (.int .i64 62, H) := by intro H; kernel_rfl
theorem t48 : ∀ H, exF Tryz.prog (fun _ _ _ => none) fs 100000 (.f 165) [.int .i64 (Int.ofNat 48)] H = some (.int .i64 63, H) := by intro H; kernel_rfl
theorem t49 : ∀ H, exF Tryz.prog (fun _ _ _ => none) fs 100000 (.f 165) [.int .i64 (Int.ofNat 49)] H = some (.int .i64 63, H) := by intro H; kernel_rfl
theorem t50 : ∀ H, exF Tryz.prog (fun _ _ _ => none) fs 100000 (.f 165) [.int .i64 (Int.ofNat 50)] H = some (.int .i64 63, H) := by intro H; kernel_rfl
theorem t51 : ∀ H, exF Tryz.prog (fun _ _ _ => none) fs 100000 (.f 165) [.int .i64 (Int.ofNat 51)] H = some (.int .i64 63, H) := by intro H; kernel_rfl
theorem t52 : ∀ H, exF Tryz.prog (fun _ _ _ => none) fs 100000 (.f 165) [.int .i64 (Int.ofNat 52)] H = some (.int .i64 63, H) := by intro H; kernel_rfl
theorem t53 : ∀ H, exF Tryz.prog (fun _ _ _ => none) fs 100000 (.f 165) [.int .i64 (Int.ofNat 53)] H = some (.int .i64 63, H) := by intro H; kernel_rfl
theorem t54 : ∀ H, exF Tryz.prog (fun _ _ _ => none) fs 100000 (.f 165) [.int .i64 (Int.ofNat 54)] H = some (.int .i64 63, H) := by intro H; kernel_rfl
theorem t55 : ∀ H, exF Tryz.prog (fun _ _ _ => none) fs 100000 (.f 165) [.int .i64 (Int.ofNat 55)] H = some (.int .i64 63, H) := by intro H; kernel_rfl
theorem t56 : ∀ H, exF Tryz.prog (fun _ _ _ => none) fs 100000 (.f 165) [.int .i64 (Int.ofNat 56)] H = some (.int .i64 63, H) := by intro H; kernel_rfl
theorem t57 : ∀ H, exF Tryz.prog (fun _ _ _ => none) fs 100000 (.f 165) [.int .i64 (Int.ofNat 57)] H = some (.int .i64 63, H) := by intro H; kernel_rfl
theorem t58 : ∀ H, exF Tryz.prog (fun _ _ _ => none) fs 100000 (.f 165) [.int .i64 (Int.ofNat 58)] H = some (.int .i64 63, H) := by intro H; kernel_rfl
theorem t59 : ∀ H, exF Tryz.prog (fun _ _ _ => none) fs 100000 (.f 165) [.int .i64 (Int.ofNat 59)] H = some (.int .i64 63, H) := by intro H; kernel_rfl
theorem t60 : ∀ H, exF Tryz.prog (fun _ _ _ => none) fs 100000 (.f 165) [.int .i64 (Int.ofNat 60)] H = some (.int .i64 63, H) := by intro H; kernel_rfl
theorem t61 : ∀ H, exF Tryz.prog (fun _ _ _ => none) fs 100000 (.f 165) [.int .i64 (Int.ofNat 61)] H = some (.int .i64 63, H) := by intro H; kernel_rfl
theorem t62 : ∀ H, exF Tryz.prog (fun _ _ _ => none) fs 100000 (.f 165) [.int .i64 (Int.ofNat 62)] H = some (.int .i64 63, H) := by intro H; kernel_rfl
theorem t63 : ∀ H, exF Tryz.prog (fun _ _ _ => none) fs 100000 (.f 165) [.int .i64 (Int.ofNat 63)] H = some (.int .i64 63, H) := by intro H; kernel_rfl
theorem t64 : ∀ H, exF Tryz.prog (fun _ _ _ => none) fs 100000 (.f 165) [.int .i64 (Int.ofNat 64)] H = some (.int .i64 63, H) := by intro H; kernel_rfl
theorem t65 : ∀ H, exF Tryz.prog (fun _ _ _ => none) fs 100000 (.f 165) [.int .i64 (Int.ofNat 65)] H = some (.int .i64 63, H) := by intro H; kernel_rfl
def tab1 (x : Nat) : Option Int := cond (Nat.blt x 49) (cond (Nat.blt x 41) (cond (Nat.blt x 37) (cond (Nat.blt x 35) (cond (Nat.blt x 34) (cond (Nat.beq x 33) (some 60) none) (cond (Nat.beq x 34) (some 60) none)) (cond (Nat.blt x 36) (cond (Nat.beq x 35) (some 61) none) (cond (Nat.beq x 36) (some 61) none))) (cond (Nat.blt x 39) (cond (Nat.blt x 38) (cond (Nat.beq x 37) (some 61) none) (cond (Nat.beq x 38) (some 61) none)) (cond (Nat.blt x 40) (cond (Nat.beq x 39) (some 61) none) (cond (Nat.beq x 40) (some 62) none)))) (cond (Nat.blt x 45) (cond (Nat.blt x 43) (cond (Nat.blt x 42) (cond (Nat.beq x 41) (some 62) none) (cond (Nat.beq x 42) (some 62) none)) (cond (Nat.blt x 44) (cond (Nat.beq x 43) (some 62) none) (cond (Nat.beq x 44) (some 62) none))) (cond (Nat.blt x 47) (cond (Nat.blt x 46) (cond (Nat.beq x 45) (some 62) none) (cond (Nat.beq x 46) (some 62) none)) (cond (Nat.blt x 48) (cond (Nat.beq x 47) (some 62) none) (cond (Nat.beq x 48) (some 63) none))))) (cond (Nat.blt x 57) (cond (Nat.blt x 53) (cond (Nat.blt x 51) (cond (Nat.blt x 50) (cond (Nat.beq x 49) (some 63) none) (cond (Nat.beq x 50) (some 63) none)) (cond (Nat.blt x 52) (cond (Nat.beq x 51) (some 63) none) (cond (Nat.beq x 52) (some 63) none))) (cond (Nat.blt x 55) (cond (Nat.blt x 54) (cond (Nat.beq x 53) (some 63) none) (cond (Nat.beq x 54) (some 63) none)) (cond (Nat.blt x 56) (cond (Nat.beq x 55) (some 63) none) (cond (Nat.beq x 56) (some 63) none)))) (cond (Nat.blt x 61) (cond (Nat.blt x 59) (cond (Nat.blt x 58) (cond (Nat.beq x 57) (some 63) none) (cond (Nat.beq x 58) (some 63) none)) (cond (Nat.blt x 60) (cond (Nat.beq x 59) (some 63) none) (cond (Nat.beq x 60) (some 63) none))) (cond (Nat.blt x 63) (cond (Nat.blt x 62) (cond (Nat.beq x 61) (some 63) none) (cond (Nat.beq x 62) (some 63) none)) (cond (Nat.blt x 64) (cond (Nat.beq x 63) (some 63) none) (cond (Nat.blt x 65) (cond (Nat.beq x 64) (some 63) none) (cond (Nat.beq x 65) (some 63) none))))))
theorem tab1_ok : TabOk Tryz.prog fs 100000 165 tab1 := TabOk.node (TabOk.node (TabOk.node (TabOk.node (TabOk.node (TabOk.leaf t33) (TabOk.leaf t34)) (TabOk.node (TabOk.leaf t35) (TabOk.leaf t36))) (TabOk.node (TabOk.node (TabOk.leaf t37) (TabOk.leaf t38)) (TabOk.node (TabOk.leaf t39) (TabOk.leaf t40)))) (TabOk.node (TabOk.node (TabOk.node (TabOk.leaf t41) (TabOk.leaf t42)) (TabOk.node (TabOk.leaf t43) (TabOk.leaf t44))) (TabOk.node (TabOk.node (TabOk.leaf t45) (TabOk.leaf t46)) (TabOk.node (TabOk.leaf t47) (TabOk.leaf t48))))) (TabOk.node (TabOk.node (TabOk.node (TabOk.node (TabOk.leaf t49) (TabOk.leaf t50)) (TabOk.node (TabOk.leaf t51) (TabOk.leaf t52))) (TabOk.node (TabOk.node (TabOk.leaf t53) (TabOk.leaf t54)) (TabOk.node (TabOk.leaf t55) (TabOk.leaf t56)))) (TabOk.node (TabOk.node (TabOk.node (TabOk.leaf t57) (TabOk.leaf t58)) (TabOk.node (TabOk.leaf t59) (TabOk.leaf t60))) (TabOk.node (TabOk.node (TabOk.leaf t61) (TabOk.leaf t62)) (TabOk.node (TabOk.leaf t63) (TabOk.node (TabOk.leaf t64) (TabOk.leaf t65))))))
end Go.Proofs.YtmibjobpbmidiaaGreat.Fs
