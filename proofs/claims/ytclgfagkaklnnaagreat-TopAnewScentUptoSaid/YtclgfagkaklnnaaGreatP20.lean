/- Part 20 of 21 of the proof that the law TopAnewScent returns true and leaves its argument as it read before, for every input that the bounded statement admits (what it reads is of bulk at most 1048576). -/
import Derived.Test.YtclgfagkaklnnaaGreatProg
import Derived.KernelRfl
import Derived.Test.YtclgfagkaklnnaaGreatP19
open Go Go.Proofs Go.Proofs.YtclgfagkaklnnaaGreat
namespace Go.Proofs.YtclgfagkaklnnaaGreat.C
set_option maxRecDepth 100000
theorem mixedA : Tryz.prog.follows .mixedOrders = true := by kernel_rfl
theorem awake37 (M : CM) : callw Tryz.prog 37 [] M (fun v m' => v = .bool true ∧ M.le m') (fun _ _ => False) := closed (lf := 1000) (n := 40) mixedA (by kernel_rfl) M
end Go.Proofs.YtclgfagkaklnnaaGreat.C
