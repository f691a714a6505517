/- Part 22 of 23 of the proof that the law TopAnewStore returns true and leaves its argument as it read before, for every input that the bounded statement admits (what it reads is of bulk at most 1048576). -/
import Derived.KernelRfl
import Derived.Test.YtjkfleibnojjaaaP21
open Go Go.Proofs Go.Proofs.Ytjkfleibnojjaaa
namespace Go.Proofs.Ytjkfleibnojjaaa.T
set_option maxRecDepth 100000
set_option maxHeartbeats 0
theorem awake29 (M : CM) : callw Try.prog 29 [] M (fun v m' => v = .bool true ∧ M.le m') (fun _ _ => False) := closedO (lf := 3000) (n := 40) mixed nextO_ok (by kernel_rfl) M
end Go.Proofs.Ytjkfleibnojjaaa.T
