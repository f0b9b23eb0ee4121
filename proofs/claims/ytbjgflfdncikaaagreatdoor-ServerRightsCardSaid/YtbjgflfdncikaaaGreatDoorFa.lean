/- A closed fact of the program: inPlace3. -/
import Derived.Test.YtbjgflfdncikaaaGreatDoorCards
import Derived.KernelRfl
import Derived.JoinedOf
import Derived.SevenTiedAt
namespace Go.Proofs.YtbjgflfdncikaaaGreatDoor
open Go
set_option maxRecDepth 100000
theorem inPlace3 : Tryz.prog.inPlace 3 = Rows.serverRightsRow.inPlace := by kernel_rfl
end Go.Proofs.YtbjgflfdncikaaaGreatDoor
