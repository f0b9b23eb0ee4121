/- A closed fact that the card asks for. -/
import Derived.Test.YtbjgflfdncikaaaGreatDoorCards
import Derived.KernelRfl
import Derived.JoinedOf
import Derived.SevenTiedAt
namespace Go.Proofs.YtbjgflfdncikaaaGreatDoor
open Go
set_option maxRecDepth 100000
theorem main3 : Tryz.prog.mainIs = some (true, "47327cd2e987fae9ef1a40f9464c20e7a911d2a3dfb7284ea424e881b1342e37".toList) := by kernel_rfl
end Go.Proofs.YtbjgflfdncikaaaGreatDoor
