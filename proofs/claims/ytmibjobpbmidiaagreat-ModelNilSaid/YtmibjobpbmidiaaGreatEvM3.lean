/- A table of a function of the program, by the evaluator: by a program of my own. Part 3. -/
import Derived.Test.YtmibjobpbmidiaaGreatEvFs
import Derived.Test.YtmibjobpbmidiaaGreatEvZb
namespace Go.Proofs.YtmibjobpbmidiaaGreat.Fs
open Go Go.Ev Go.Proofs
set_option maxRecDepth 100000
theorem t99 : ∀ H, exF Tryz.prog (fun _ _ _ => none) fs 100000 (.f 165) [.int .i64 (Int.ofNat 99)] H = some (.int .i64 63, H) := by intro H; kernel_rfl
theorem t100 : ∀ H, exF Tryz.prog (fun _ _ _ => none) fs 100000 (.f 165) [.int .i64 (Int.ofNat 100)] H = some (.int .i64 63, H) := by intro H; kernel_rfl
theorem t101 : ∀ H, exF Tryz.prog (fun _ _ _ => none) fs 100000 (.f 165) [.int .i64 (Int.ofNat 101)] H = some (.int .i64 63, H) := by intro H; kernel_rfl
theorem t102 : ∀ H, exF Tryz.prog (fun _ _ _ => none) fs 100000 (.f 165) [.int .i64 (Int.ofNat 102)] H = some (.int .i64 63, H) := by intro H; kernel_rfl
theorem t103 : ∀ H, exF Tryz.prog (fun _ _ _ => none) fs 100000 (.f 165) [.int .i64 (Int.ofNat 103)] H = some (.int .i64 63, H) := by intro H; kernel_rfl
theorem t104 : ∀ H, exF Tryz.prog (fun _ _ _ => none) fs 100000 (.f 165) [.int .i64 (Int.ofNat 104)] H = some (.int .i64 63, H) := by intro H; kernel_rfl
theorem t105 : ∀ H, exF Tryz.prog (fun _ _ _ => none) fs 100000 (.f 165) [.int .i64 (Int.ofNat 105)] H = some (.int .i64 63, H) := by intro H; kernel_rfl
theorem t106 : ∀ H, exF Tryz.prog (fun _ _ _ => none) fs 100000 (.f 165) [.int .i64 (Int.ofNat 106)] H = some (.int .i64 63, H) := by intro H; kernel_rfl
theorem t107 : ∀ H, exF Tryz.prog (fun _ _ _ => none) fs 100000 (.f 165) [.int .i64 (Int.ofNat 107)] H = some (.int .i64 63, H) := by intro H; kernel_rfl
theorem t108 : ∀ H, exF Tryz.prog (fun _ _ _ => none) fs 100000 (.f 165) [.int .i64 (Int.ofNat 108)] H = some (.int .i64 63, H) := by intro H; kernel_rfl
theorem t109 : ∀ H, exF Tryz.prog (fun _ _ _ => none) fs 100000 (.f 165) [.int .i64 (Int.ofNat 109)] H = some (.int .i64 63, H) := by intro H; kernel_rfl
theorem t110 : ∀ H, exF Tryz.prog (fun _ _ _ => none) fs 100000 (.f 165) [.int .i64 (Int.ofNat 110)] H = some (.int .i64 63, H) := by intro H; kernel_rfl
theorem t111 : ∀ H, exF Tryz.prog (fun _ _ _ => none) fs 100000 (.f 165) [.int .i64 (Int.ofNat 111)] H = some (.int .i64 63, H) := by intro H; kernel_rfl
theorem t112 : ∀ H, exF Tryz.prog (fun _ _ _ => none) fs 100000 (.f 165) [.int .i64 (Int.ofNat 112)] H = some (.int .i64 63, H) := by intro H; kernel_rfl
theorem t113 : ∀ H, exF Tryz.prog (fun _ _ _ => none) fs 100000 (.f 165) [.int .i64 (Int.ofNat 113)] H = some (.int .i64 63, H) := by intro H; kernel_rfl
theorem t114 : ∀ H, exF Tryz.prog (fun _ _ _ => none) fs 100000 (.f 165) [.int .i64 (Int.ofNat 114)] H = some (.int .i64 63, H) := by intro H; kernel_rfl
theorem t115 : ∀ H, exF Tryz.prog (fun _ _ _ => none) fs 100000 (.f 165) [.int .i64 (Int.ofNat 115)] H = some (.int .i64 63, H) := by intro H; kernel_rfl
theorem t116 : ∀ H, exF Tryz.prog (fun _ _ _ => none) fs 100000 (.f 165) [.int .i64 (Int.ofNat 116)] H = some (.int .i64 63, H) := by intro H; kernel_rfl
theorem t117 : ∀ H, exF Tryz.prog (fun _ _ _ => none) fs 100000 (.f 165) [.int .i64 (Int.ofNat 117)] H = some (.int .i64 63, H) := by intro H; kernel_rfl
theorem t118 : ∀ H, exF Tryz.prog (fun _ _ _ => none) fs 100000 (.f 165) [.int .i64 (Int.ofNat 118)] H = some (.int .i64 63, H) := by intro H; kernel_rfl
theorem t119 : ∀ H, exF Tryz.prog (fun _ _ _ => none) fs 100000 (.f 165) [.int .i64 (Int.ofNat 119)] H = some (.int .i64 63, H) := by intro H; kernel_rfl
theorem t120 : ∀ H, exF Tryz.prog (fun _ _ _ => none) fs 100000 (.f 165) [.int .i64 (Int.ofNat 120)] H = some (.int .i64 63, H) := by intro H; kernel_rfl
theorem t121 : ∀ H, exF Tryz.prog (fun _ _ _ => none) fs 100000 (.f 165) [.int .i64 (Int.ofNat 121)] H = some (.int .i64 63, H) := by intro H; kernel_rfl
theorem t122 : ∀ H, exF Tryz.prog (fun _ _ _ => none) fs 100000 (.f 165) [.int .i64 (Int.ofNat 122)] H = some (.int .i64 63, H) := by intro H; kernel_rfl
theorem t123 : ∀ H, exF Tryz.prog (fun _ _ _ => none) fs 100000 (.f 165) [.int .i64 (Int.ofNat 123)] H = some (.int .i64 63, H) := by intro H; kernel_rfl
theorem t124 : ∀ H, exF Tryz.prog (fun _ _ _ => none) fs 100000 (.f 165) [.int .i64 (Int.ofNat 124)] H = some (.int .i64 63, H) := by intro H; kernel_rfl
theorem t125 : ∀ H, exF Tryz.prog (fun _ _ _ => none) fs 100000 (.f 165) [.int .i64 (Int.ofNat 125)] H = some (.int .i64 63, H) := by intro H; kernel_rfl
theorem t126 : ∀ H, exF Tryz.prog (fun _ _ _ => none) fs 100000 (.f 165) [.int .i64 (Int.ofNat 126)] H = some (.int .i64 63, H) := by intro H; kernel_rfl
theorem t127 : ∀ H, exF Tryz.prog (fun _ _ _ => none) fs 100000 (.f 165) [.int .i64 (Int.ofNat 127)] H = some (.int .i64 63, H) := by intro H; kernel_rfl
theorem t128 : ∀ H, exF Tryz.prog (fun _ _ _ => none) fs 100000 (.f 165) [.int .i64 (Int.ofNat 128)] H = some (.int .i64 63, H) := by intro H; kernel_rfl
def tab3 (x : Nat) : Option Int := cond (Nat.blt x 114) (cond (Nat.blt x 106) (cond (Nat.blt x 102) (cond (Nat.blt x 100) (cond (Nat.beq x 99) (some 63) none) (cond (Nat.blt x 101) (cond (Nat.beq x 100) (some 63) none) (cond (Nat.beq x 101) (some 63) none))) (cond (Nat.blt x 104) (cond (Nat.blt x 103) (cond (Nat.beq x 102) (some 63) none) (cond (Nat.beq x 103) (some 63) none)) (cond (Nat.blt x 105) (cond (Nat.beq x 104) (some 63) none) (cond (Nat.beq x 105) (some 63) none)))) (cond (Nat.blt x 110) (cond (Nat.blt x 108) (cond (Nat.blt x 107) (cond (Nat.beq x 106) (some 63) none) (cond (Nat.beq x 107) (some 63) none)) (cond (Nat.blt x 109) (cond (Nat.beq x 108) (some 63) none) (cond (Nat.beq x 109) (some 63) none))) (cond (Nat.blt x 112) (cond (Nat.blt x 111) (cond (Nat.beq x 110) (some 63) none) (cond (Nat.beq x 111) (some 63) none)) (cond (Nat.blt x 113) (cond (Nat.beq x 112) (some 63) none) (cond (Nat.beq x 113) (some 63) none))))) (cond (Nat.blt x 121) (cond (Nat.blt x 117) (cond (Nat.blt x 115) (cond (Nat.beq x 114) (some 63) none) (cond (Nat.blt x 116) (cond (Nat.beq x 115) (some 63) none) (cond (Nat.beq x 116) (some 63) none))) (cond (Nat.blt x 119) (cond (Nat.blt x 118) (cond (Nat.beq x 117) (some 63) none) (cond (Nat.beq x 118) (some 63) none)) (cond (Nat.blt x 120) (cond (Nat.beq x 119) (some 63) none) (cond (Nat.beq x 120) (some 63) none)))) (cond (Nat.blt x 125) (cond (Nat.blt x 123) (cond (Nat.blt x 122) (cond (Nat.beq x 121) (some 63) none) (cond (Nat.beq x 122) (some 63) none)) (cond (Nat.blt x 124) (cond (Nat.beq x 123) (some 63) none) (cond (Nat.beq x 124) (some 63) none))) (cond (Nat.blt x 127) (cond (Nat.blt x 126) (cond (Nat.beq x 125) (some 63) none) (cond (Nat.beq x 126) (some 63) none)) (cond (Nat.blt x 128) (cond (Nat.beq x 127) (some 63) none) (cond (Nat.beq x 128) (some 63) none)))))
theorem tab3_ok : TabOk Tryz.prog fs 100000 165 tab3 := TabOk.node (TabOk.node (TabOk.node (TabOk.node (TabOk.leaf t99) (TabOk.node (TabOk.leaf t100) (TabOk.leaf t101))) (TabOk.node (TabOk.node (TabOk.leaf t102) (TabOk.leaf t103)) (TabOk.node (TabOk.leaf t104) (TabOk.leaf t105)))) (TabOk.node (TabOk.node (TabOk.node (TabOk.leaf t106) (TabOk.leaf t107)) (TabOk.node (TabOk.leaf t108) (TabOk.leaf t109))) (TabOk.node (TabOk.node (TabOk.leaf t110) (TabOk.leaf t111)) (TabOk.node (TabOk.leaf t112) (TabOk.leaf t113))))) (TabOk.node (TabOk.node (TabOk.node (TabOk.leaf t114) (TabOk.node (TabOk.leaf t115) (TabOk.leaf t116))) (TabOk.node (TabOk.node (TabOk.leaf t117) (TabOk.leaf t118)) (TabOk.node (TabOk.leaf t119) (TabOk.leaf t120)))) (TabOk.node (TabOk.node (TabOk.node (TabOk.leaf t121) (TabOk.leaf t122)) (TabOk.node (TabOk.leaf t123) (TabOk.leaf t124))) (TabOk.node (TabOk.node (TabOk.leaf t125) (TabOk.leaf t126)) (TabOk.node (TabOk.leaf t127) (TabOk.leaf t128)))))
end Go.Proofs.YtmibjobpbmidiaaGreat.Fs
