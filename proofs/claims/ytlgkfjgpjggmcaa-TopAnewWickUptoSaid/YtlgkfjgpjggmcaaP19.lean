/- Part 19 of 20 of the proof that the law stearintop.TopAnewWick returns true and leaves its argument as it read before, for every input that the bounded statement admits (what it reads is of bulk at most 1048576). -/
import Derived.Test.YtlgkfjgpjggmcaaProg
import Derived.KernelRfl
import Derived.Test.YtlgkfjgpjggmcaaP18
open Go Go.Proofs Go.Proofs.Ytlgkfjgpjggmcaa
namespace Go.Proofs.Ytlgkfjgpjggmcaa.W
set_option maxRecDepth 100000
theorem mixedA : Try.prog.follows .mixedOrders = true := by kernel_rfl
theorem awake32 (M : CM) : callw Try.prog 32 [] M (fun v m' => v = .bool true ∧ M.le m') (fun _ _ => False) := closed (lf := 1000) (n := 40) mixedA (by kernel_rfl) M
end Go.Proofs.Ytlgkfjgpjggmcaa.W
