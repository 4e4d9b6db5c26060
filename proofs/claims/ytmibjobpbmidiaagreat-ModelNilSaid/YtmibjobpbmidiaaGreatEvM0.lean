/- A table of a function of the program, by the evaluator: by a program of my own. Part 0. -/
import Derived.Test.YtmibjobpbmidiaaGreatEvFs
import Derived.Test.YtmibjobpbmidiaaGreatEvZb
namespace Go.Proofs.YtmibjobpbmidiaaGreat.Fs
open Go Go.Ev Go.Proofs
set_option maxRecDepth 100000
theorem t0 : ∀ H, exF Tryz.prog (fun _ _ _ => none) fs 100000 (.f 165) [.int .i64 (Int.ofNat 0)] H = some (.int .i64 32, H) := by intro H; kernel_rfl
theorem t1 : ∀ H, exF Tryz.prog (fun _ _ _ => none) fs 100000 (.f 165) [.int .i64 (Int.ofNat 1)] H = some (.int .i64 33, H) := by intro H; kernel_rfl
theorem t2 : ∀ H, exF Tryz.prog (fun _ _ _ => none) fs 100000 (.f 165) [.int .i64 (Int.ofNat 2)] H = some (.int .i64 34, H) := by intro H; kernel_rfl
theorem t3 : ∀ H, exF Tryz.prog (fun _ _ _ => none) fs 100000 (.f 165) [.int .i64 (Int.ofNat 3)] H = some (.int .i64 36, H) := by intro H; kernel_rfl
theorem t4 : ∀ H, exF Tryz.prog (fun _ _ _ => none) fs 100000 (.f 165) [.int .i64 (Int.ofNat 4)] H = some (.int .i64 37, H) := by intro H; kernel_rfl
theorem t5 : ∀ H, exF Tryz.prog (fun _ _ _ => none) fs 100000 (.f 165) [.int .i64 (Int.ofNat 5)] H = some (.int .i64 38, H) := by intro H; kernel_rfl
theorem t6 : ∀ H, exF Tryz.prog (fun _ _ _ => none) fs 100000 (.f 165) [.int .i64 (Int.ofNat 6)] H = some (.int .i64 40, H) := by intro H; kernel_rfl
theorem t7 : ∀ H, exF Tryz.prog (fun _ _ _ => none) fs 100000 (.f 165) [.int .i64 (Int.ofNat 7)] H = some (.int .i64 41, H) := by intro H; kernel_rfl
theorem t8 : ∀ H, exF Tryz.prog (fun _ _ _ => none) fs 100000 (.f 165) [.int .i64 (Int.ofNat 8)] H = some (.int .i64 42, H) := by intro H; kernel_rfl
theorem t9 : ∀ H, exF Tryz.prog (fun _ _ _ => none) fs 100000 (.f 165) [.int .i64 (Int.ofNat 9)] H = some (.int .i64 43, H) := by intro H; kernel_rfl
theorem t10 : ∀ H, exF Tryz.prog (fun _ _ _ => none) fs 100000 (.f 165) [.int .i64 (Int.ofNat 10)] H = some (.int .i64 45, H) := by intro H; kernel_rfl
theorem t11 : ∀ H, exF Tryz.prog (fun _ _ _ => none) fs 100000 (.f 165) [.int .i64 (Int.ofNat 11)] H = some (.int .i64 46, H) := by intro H; kernel_rfl
theorem t12 : ∀ H, exF Tryz.prog (fun _ _ _ => none) fs 100000 (.f 165) [.int .i64 (Int.ofNat 12)] H = some (.int .i64 47, H) := by intro H; kernel_rfl
theorem t13 : ∀ H, exF Tryz.prog (fun _ _ _ => none) fs 100000 (.f 165) [.int .i64 (Int.ofNat 13)] H = some (.int .i64 48, H) := by intro H; kernel_rfl
theorem t14 : ∀ H, exF Tryz.prog (fun _ _ _ => none) fs 100000 (.f 165) [.int .i64 (Int.ofNat 14)] H = some (.int .i64 49, H) := by intro H; kernel_rfl
theorem t15 : ∀ H, exF Tryz.prog (fun _ _ _ => none) fs 100000 (.f 165) [.int .i64 (Int.ofNat 15)] H = some (.int .i64 50, H) := by intro H; kernel_rfl
theorem t16 : ∀ H, exF Tryz.prog (fun _ _ _ => none) fs 100000 (.f 165) [.int .i64 (Int.ofNat 16)] H = some (.int .i64 51, H) := by intro H; kernel_rfl
theorem t17 : ∀ H, exF Tryz.prog (fun _ _ _ => none) fs 100000 (.f 165) [.int .i64 (Int.ofNat 17)] H = some (.int .i64 52, H) := by intro H; kernel_rfl
theorem t18 : ∀ H, exF Tryz.prog (fun _ _ _ => none) fs 100000 (.f 165) [.int .i64 (Int.ofNat 18)] H = some (.int .i64 52, H) := by intro H; kernel_rfl
theorem t19 : ∀ H, exF Tryz.prog (fun _ _ _ => none) fs 100000 (.f 165) [.int .i64 (Int.ofNat 19)] H = some (.int .i64 53, H) := by intro H; kernel_rfl
theorem t20 : ∀ H, exF Tryz.prog (fun _ _ _ => none) fs 100000 (.f 165) [.int .i64 (Int.ofNat 20)] H = some (.int .i64 54, H) := by intro H; kernel_rfl
theorem t21 : ∀ H, exF Tryz.prog (fun _ _ _ => none) fs 100000 (.f 165) [.int .i64 (Int.ofNat 21)] H = some (.int .i64 55, H) := by intro H; kernel_rfl
theorem t22 : ∀ H, exF Tryz.prog (fun _ _ _ => none) fs 100000 (.f 165) [.int .i64 (Int.ofNat 22)] H = some (.int .i64 55, H) := by intro H; kernel_rfl
theorem t23 : ∀ H, exF Tryz.prog (fun _ _ _ => none) fs 100000 (.f 165) [.int .i64 (Int.ofNat 23)] H = some (.int .i64 56, H) := by intro H; kernel_rfl
theorem t24 : ∀ H, exF Tryz.prog (fun _ _ _ => none) fs 100000 (.f 165) [.int .i64 (Int.ofNat 24)] H = some (.int .i64 56, H) := by intro H; kernel_rfl
theorem t25 : ∀ H, exF Tryz.prog (fun _ _ _ => none) fs 100000 (.f 165) [.int .i64 (Int.ofNat 25)] H = some (.int .i64 57, H) := by intro H; kernel_rfl
theorem t26 : ∀ H, exF Tryz.prog (fun _ _ _ => none) fs 100000 (.f 165) [.int .i64 (Int.ofNat 26)] H = some (.int .i64 57, H) := by intro H; kernel_rfl
theorem t27 : ∀ H, exF Tryz.prog (fun _ _ _ => none) fs 100000 (.f 165) [.int .i64 (Int.ofNat 27)] H = some (.int .i64 58, H) := by intro H; kernel_rfl
theorem t28 : ∀ H, exF Tryz.prog (fun _ _ _ => none) fs 100000 (.f 165) [.int .i64 (Int.ofNat 28)] H = some (.int .i64 58, H) := by intro H; kernel_rfl
theorem t29 : ∀ H, exF Tryz.prog (fun _ _ _ => none) fs 100000 (.f 165) [.int .i64 (Int.ofNat 29)] H = some (.int .i64 59, H) := by intro H; kernel_rfl
theorem t30 : ∀ H, exF Tryz.prog (fun _ _ _ => none) fs 100000 (.f 165) [.int .i64 (Int.ofNat 30)] H = some (.int .i64 59, H) := by intro H; kernel_rfl
theorem t31 : ∀ H, exF Tryz.prog (fun _ _ _ => none) fs 100000 (.f 165) [.int .i64 (Int.ofNat 31)] H = some (.int .i64 59, H) := by intro H; kernel_rfl
theorem t32 : ∀ H, exF Tryz.prog (fun _ _ _ => none) fs 100000 (.f 165) [.int .i64 (Int.ofNat 32)] H = some (.int .i64 60, H) := by intro H; kernel_rfl
def tab0 (x : Nat) : Option Int := cond (Nat.blt x 16) (cond (Nat.blt x 8) (cond (Nat.blt x 4) (cond (Nat.blt x 2) (cond (Nat.blt x 1) (cond (Nat.beq x 0) (some 32) none) (cond (Nat.beq x 1) (some 33) none)) (cond (Nat.blt x 3) (cond (Nat.beq x 2) (some 34) none) (cond (Nat.beq x 3) (some 36) none))) (cond (Nat.blt x 6) (cond (Nat.blt x 5) (cond (Nat.beq x 4) (some 37) none) (cond (Nat.beq x 5) (some 38) none)) (cond (Nat.blt x 7) (cond (Nat.beq x 6) (some 40) none) (cond (Nat.beq x 7) (some 41) none)))) (cond (Nat.blt x 12) (cond (Nat.blt x 10) (cond (Nat.blt x 9) (cond (Nat.beq x 8) (some 42) none) (cond (Nat.beq x 9) (some 43) none)) (cond (Nat.blt x 11) (cond (Nat.beq x 10) (some 45) none) (cond (Nat.beq x 11) (some 46) none))) (cond (Nat.blt x 14) (cond (Nat.blt x 13) (cond (Nat.beq x 12) (some 47) none) (cond (Nat.beq x 13) (some 48) none)) (cond (Nat.blt x 15) (cond (Nat.beq x 14) (some 49) none) (cond (Nat.beq x 15) (some 50) none))))) (cond (Nat.blt x 24) (cond (Nat.blt x 20) (cond (Nat.blt x 18) (cond (Nat.blt x 17) (cond (Nat.beq x 16) (some 51) none) (cond (Nat.beq x 17) (some 52) none)) (cond (Nat.blt x 19) (cond (Nat.beq x 18) (some 52) none) (cond (Nat.beq x 19) (some 53) none))) (cond (Nat.blt x 22) (cond (Nat.blt x 21) (cond (Nat.beq x 20) (some 54) none) (cond (Nat.beq x 21) (some 55) none)) (cond (Nat.blt x 23) (cond (Nat.beq x 22) (some 55) none) (cond (Nat.beq x 23) (some 56) none)))) (cond (Nat.blt x 28) (cond (Nat.blt x 26) (cond (Nat.blt x 25) (cond (Nat.beq x 24) (some 56) none) (cond (Nat.beq x 25) (some 57) none)) (cond (Nat.blt x 27) (cond (Nat.beq x 26) (some 57) none) (cond (Nat.beq x 27) (some 58) none))) (cond (Nat.blt x 30) (cond (Nat.blt x 29) (cond (Nat.beq x 28) (some 58) none) (cond (Nat.beq x 29) (some 59) none)) (cond (Nat.blt x 31) (cond (Nat.beq x 30) (some 59) none) (cond (Nat.blt x 32) (cond (Nat.beq x 31) (some 59) none) (cond (Nat.beq x 32) (some 60) none))))))
theorem tab0_ok : TabOk Tryz.prog fs 100000 165 tab0 := TabOk.node (TabOk.node (TabOk.node (TabOk.node (TabOk.node (TabOk.leaf t0) (TabOk.leaf t1)) (TabOk.node (TabOk.leaf t2) (TabOk.leaf t3))) (TabOk.node (TabOk.node (TabOk.leaf t4) (TabOk.leaf t5)) (TabOk.node (TabOk.leaf t6) (TabOk.leaf t7)))) (TabOk.node (TabOk.node (TabOk.node (TabOk.leaf t8) (TabOk.leaf t9)) (TabOk.node (TabOk.leaf t10) (TabOk.leaf t11))) (TabOk.node (TabOk.node (TabOk.leaf t12) (TabOk.leaf t13)) (TabOk.node (TabOk.leaf t14) (TabOk.leaf t15))))) (TabOk.node (TabOk.node (TabOk.node (TabOk.node (TabOk.leaf t16) (TabOk.leaf t17)) (TabOk.node (TabOk.leaf t18) (TabOk.leaf t19))) (TabOk.node (TabOk.node (TabOk.leaf t20) (TabOk.leaf t21)) (TabOk.node (TabOk.leaf t22) (TabOk.leaf t23)))) (TabOk.node (TabOk.node (TabOk.node (TabOk.leaf t24) (TabOk.leaf t25)) (TabOk.node (TabOk.leaf t26) (TabOk.leaf t27))) (TabOk.node (TabOk.node (TabOk.leaf t28) (TabOk.leaf t29)) (TabOk.node (TabOk.leaf t30) (TabOk.node (TabOk.leaf t31) (TabOk.leaf t32))))))
end Go.Proofs.YtmibjobpbmidiaaGreat.Fs
