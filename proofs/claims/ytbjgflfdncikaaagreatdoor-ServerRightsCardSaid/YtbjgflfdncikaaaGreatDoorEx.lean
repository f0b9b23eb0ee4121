/- For every input the law ServerRights returns true, and its arguments read behind the call as before; the listed variables are tied to the program's text. -/
import Derived.Test.YtbjgflfdncikaaaGreatDoorEt
import Derived.Test.YtbjgflfdncikaaaGreatDoorFa
import Derived.Test.YtbjgflfdncikaaaGreatDoorFb
import Derived.Test.YtbjgflfdncikaaaGreatDoorFc
import Derived.Test.YtbjgflfdncikaaaGreatDoorFd
import Derived.Test.YtbjgflfdncikaaaGreatDoorFe
import Derived.Test.YtbjgflfdncikaaaGreatDoorGb
import Derived.Test.YtbjgflfdncikaaaGreatDoorGc
import Derived.Test.YtbjgflfdncikaaaGreatDoorGd
set_option linter.unusedVariables false
set_option linter.unusedSimpArgs false
namespace Go.Proofs.YtbjgflfdncikaaaGreatDoor
open Go Go.ChangeShapes Go.WideShapes Go.ChangeAt Go.RowKit
set_option maxRecDepth 100000
theorem serverRights_holds : Rows.ServerRightsSaid :=
  OpenClaim.holds_of_wide 3 Tryz.f3 rfl rfl rfl rfl rfl rfl rfl ⟨rfl, rfl, rfl, rfl, rfl⟩ rfl rfl rfl rfl rfl (by kernel_rfl) Tryz.func3 (joined3 inPlace3 unfollowed3 recurses3 named3)
    (of_decide_eq_true (by kernel_rfl)) (by unfold Func.isWrapper; first | (rw [if_pos (by decide +kernel)]; kernel_rfl) | (rw [if_neg (by decide +kernel)]; exact ⟨rfl, rfl⟩))
    (fun os started H enc _ => ServerRights.lifted os started H enc)
theorem serverRights_card : Rows.ServerRightsCardSaid :=
  Claim7.holds_tied_plain_at .later [] [.data, .data, .data] true (true, "47327cd2e987fae9ef1a40f9464c20e7a911d2a3dfb7284ea424e881b1342e37") true serverRights_holds (fun _ h => by cases h) (by kernel_rfl) (fun _ h => by cases h) serverRights_row_tie rfl ⟨rfl, rfl⟩ main3 rfl
    (fun f fn hf hfn => by
      obtain rfl : f = 3 := Option.some.inj ((show Tryz.prog.funcNamed "tithing/tithinglaw25.ServerRights" = some 3 by kernel_rfl).symm.trans hf) |>.symm
      obtain rfl : fn = Tryz.f3 := (Option.some.inj (Tryz.func3.symm.trans hfn)).symm
      exact ⟨looks3, fun j t ht => by
        rw [Tryz.params3] at ht
        have hm : t ∈ [23, 24] := by simpa using Array.mem_of_getElem? ht
        have hall : ([23, 24].all fun u => !Tryz.prog.wantsStandIn u) = true := by kernel_rfl
        exact (show Tryz.prog.wantsStandIn t = false by simpa using List.all_eq_true.1 hall t hm)⟩)
    goes3
#print axioms serverRights_card
end Go.Proofs.YtbjgflfdncikaaaGreatDoor
