/- The closed facts that the row asks for, out of the four. -/
import Derived.Test.YtbjgflfdncikaaaGreatDoorCards
import Derived.KernelRfl
import Derived.JoinedOf
import Derived.SevenTiedAt
namespace Go.Proofs.YtbjgflfdncikaaaGreatDoor
open Go
set_option maxRecDepth 100000
theorem joined3 (h1 : Tryz.prog.inPlace 3 = Rows.serverRightsRow.inPlace) (h2 : Tryz.prog.unfollowed 3 = true) (h3 : Tryz.prog.recurses 3 = true) (h4 : Tryz.prog.varsNamed 3 = Rows.serverRightsRow.named) :
    joinedFacts Tryz.prog 3 Tryz.f3 Rows.serverRightsSpec Rows.serverRightsRow = true := by
  unfold joinedFacts
  rw [h1, h2, h3, h4]
  clear h1 h2 h3 h4
  kernel_rfl
end Go.Proofs.YtbjgflfdncikaaaGreatDoor
