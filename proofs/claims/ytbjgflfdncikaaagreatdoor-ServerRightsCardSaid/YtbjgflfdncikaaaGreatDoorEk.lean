/- The sanity check of layer 25 comes to true, whatever the tape: a closed run of the executor. -/
import Derived.Test.YtbjgflfdncikaaaGreatDoorEi
import Derived.Test.YtbjgflfdncikaaaGreatDoorEl
set_option linter.unusedVariables false
set_option linter.unusedSimpArgs false
namespace Go.Proofs
open Go.RowKit Go.Maps Go.Sort Go.Shelf

theorem Tryz.sortsA (m : Nat) : AnyZI.SortsIn Tryz.prog Tryz.sortedA_ren Fence.wide m :=
  ⟨fun blk off cap ss W hH hblk hsz => callsIn_wide.2 (AnyM.slices_Sort_int Tryz.sortA blk off cap ss W hH hblk hsz),
   fun p cap W => callsIn_wide.2 (AnyM.slices_Sort_int_none Tryz.sortA p cap W)⟩

theorem Tryz.sortedSpec : Ae.SortedSpec Tryz.prog 71 123 3 := by
  intro Bm b nn D0 R w hBm hm hown hmax hbytes
  have hseq : SeqGives Fence.wide 2 Tryz.prog 123 #[.pointer (some ⟨Bm, 0, none⟩)] encZ (fun ss => ss.Perm (intKeys D0)) (Maps.size D0) w :=
    AnyZI.keys_gives (ρ := Tryz.keysA_ren) { Tryz.keysA with } Fence.wide _ trivial rfl (by omega) Bm b nn D0 _ hBm hm hown
  have cS := AnyZI.sorted_in Tryz.sortedA Fence.wide 5 trivial trivial trivial trivial rfl (by omega) (Tryz.sortsA _) (enters_of Tryz.func122 (by kernel_rfl) rfl) 123 #[.pointer (some ⟨Bm, 0, none⟩)] trivial (enters_of Tryz.func123 (by kernel_rfl) rfl) _ _ hmax hbytes _ hseq
  change CallsIn _ _ Tryz.prog 71 _ _ _ at cS
  exact callsIn_wide.1 cS

noncomputable def Tryz.tb : Ae.Tb := Ae.tbOf Tryz.prog 321 343 124
theorem Tryz.tb_ok : Tryz.tb.Ok :=
  Ae.tbOf_ok (by kernel_rfl) (by kernel_rfl)
    (fun fn h => by obtain rfl := Option.some.inj (h.symm.trans Tryz.func321); exact ⟨by kernel_rfl, by kernel_rfl⟩)
    (fun fn h => by obtain rfl := Option.some.inj (h.symm.trans Tryz.func343); exact ⟨by kernel_rfl, by kernel_rfl⟩)
    (fun fn h => by obtain rfl := Option.some.inj (h.symm.trans Tryz.func124); exact ⟨by kernel_rfl, by kernel_rfl⟩)

noncomputable def Tryz.orc (f : Nat) (args : List Ae.V) (h : Ae.H) : Option (Ae.M Ae.V) :=
  Ae.sel (Nat.beq f 71) (Ae.orcSorted 123 args h) (Ae.sel (Nat.beq f 266) (Ae.orcInsert args h) none)
theorem Tryz.orc_ok : Ae.OrcOk Tryz.tb Tryz.orc := by
  intro f args h m μ w args' ho hm r hv
  unfold Tryz.orc at ho
  cases h1 : Nat.beq f 71 with
  | true =>
    rw [h1, Ae.sel_true] at ho
    have := Nat.eq_of_beq_eq_true h1; subst this
    exact Ae.orcSorted_ok (P := Tryz.tb) Tryz.underlying3 Tryz.sortedSpec ho r hv
  | false =>
    rw [h1, Ae.sel_false] at ho
    cases h2 : Nat.beq f 266 with
    | true =>
      rw [h2, Ae.sel_true] at ho
      have := Nat.eq_of_beq_eq_true h2; subst this
      exact Ae.orcInsert_ok (P := Tryz.tb) Tryz.insShift Tryz.insGrow ho r hv
    | false => rw [h2] at ho; cases ho

set_option maxRecDepth 1000000
theorem Tryz.first_run : Ae.isTrue (Ae.run Tryz.tb Tryz.orc 100000 (.call 8 []) ⟨0, .nil, []⟩) = true := by decide +kernel
theorem Tryz.first (w : World) : Calls Tryz.prog 8 #[] w fun e w' => e = .returned (.bool true) ∧ Below w.heap.size w w' :=
  Ae.closed_true Tryz.tb_ok Tryz.orc_ok Tryz.first_run w
end Go.Proofs
