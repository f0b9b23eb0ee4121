/- A closed fact that the card asks for. -/
import Derived.Test.YtbjgflfdncikaaaGreatDoorCards
import Derived.KernelRfl
import Derived.JoinedOf
import Derived.SevenTiedAt
namespace Go.Proofs.YtbjgflfdncikaaaGreatDoor
open Go
set_option maxRecDepth 100000
theorem goes3 : false = Rows.serverRightsRow.goesBy Tryz.prog := by kernel_rfl
end Go.Proofs.YtbjgflfdncikaaaGreatDoor
