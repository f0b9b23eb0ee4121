/- A closed fact of the program: recurses3. -/
import Derived.Test.YtbjgflfdncikaaaGreatDoorCards
import Derived.KernelRfl
import Derived.JoinedOf
import Derived.SevenTiedAt
namespace Go.Proofs.YtbjgflfdncikaaaGreatDoor
open Go
set_option maxRecDepth 100000
theorem recurses3 : Tryz.prog.recurses 3 = true := by kernel_rfl
end Go.Proofs.YtbjgflfdncikaaaGreatDoor
