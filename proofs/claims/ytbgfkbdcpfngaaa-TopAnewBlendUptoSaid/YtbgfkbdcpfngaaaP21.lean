/- Part 21 of 22 of the proof that the law TopAnewBlend returns true and leaves its argument as it read before, for every input that the bounded statement admits (what it reads is of bulk at most 1048576). -/
import Derived.Test.YtbgfkbdcpfngaaaProg
import Derived.KernelRfl
import Derived.Test.YtbgfkbdcpfngaaaP20
open Go Go.Proofs Go.Proofs.Ytbgfkbdcpfngaaa
namespace Go.Proofs.Ytbgfkbdcpfngaaa.B
set_option maxRecDepth 100000
set_option maxHeartbeats 0
theorem mixedA : Try.prog.follows .mixedOrders = true := by kernel_rfl
theorem awake31 (M : CM) : callw Try.prog 31 [] M (fun v m' => v = .bool true ∧ M.le m') (fun _ _ => False) := closedO (O := fun C => C) (lf := 3000) (n := 40) mixedA (fun _ h => h) (by kernel_rfl) M
end Go.Proofs.Ytbgfkbdcpfngaaa.B
