/- A closed fact of the program: named3. -/
import Derived.Test.YtbjgflfdncikaaaGreatDoorCards
import Derived.KernelRfl
import Derived.JoinedOf
import Derived.SevenTiedAt
namespace Go.Proofs.YtbjgflfdncikaaaGreatDoor
open Go
set_option maxRecDepth 100000
theorem named3 : Tryz.prog.varsNamed 3 = Rows.serverRightsRow.named := by kernel_rfl
end Go.Proofs.YtbjgflfdncikaaaGreatDoor
