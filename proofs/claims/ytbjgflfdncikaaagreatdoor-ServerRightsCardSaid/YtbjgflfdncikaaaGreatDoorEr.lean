/- The law ServerRights, run with variables: on every way it comes to true. -/
import Derived.Test.YtbjgflfdncikaaaGreatDoorEk
set_option linter.unusedVariables false
set_option linter.unusedSimpArgs false
namespace Go.Proofs
open Go.RowKit

noncomputable def Tryz.orcL (f : Nat) (args : List Ae.V) (h : Ae.H) : Option (Ae.M Ae.V) :=
  Ae.sel (Nat.beq f 8) (match args with | [] => some (.one (.bool true) h) | _ => none) (Tryz.orc f args h)
theorem Tryz.orcL_ok : Ae.OrcOk Tryz.tb Tryz.orcL := by
  intro f args h m μ w args' ho hm r hv
  unfold Tryz.orcL at ho
  cases h1 : Nat.beq f 8 with
  | false => rw [h1, Ae.sel_false] at ho; exact Tryz.orc_ok f args h m μ w args' ho hm r hv
  | true =>
    rw [h1, Ae.sel_true] at ho
    have := Nat.eq_of_beq_eq_true h1; subst this
    split at ho
    · cases ho
      simp only [Ae.VRs] at hv
      have : args' = #[] := by apply Array.ext'; simpa using hv
      subst this
      refine callsIn_wide.2 ((Tryz.first w).mono ?_)
      rintro e w' ⟨rfl, hb⟩
      exact ⟨.bool true, _, h, μ, rfl, List.mem_singleton.2 rfl, r.grown hb, by simp [Ae.VR]⟩
    · cases ho

/-- the rights: five numbers and a bool -/
def Tryz.rv : Ae.V := .agg [.sym .i64 (.v 0), .sym .i64 (.v 1), .sym .i64 (.v 2), .sym .i64 (.v 3), .sym .i64 (.v 4), .syb (.eq (.v 5) (.c 1))]
/-- a number, put into four bytes and read again -/
def Tryz.rt (i : Nat) : Ae.E := .o .add .i64 (.o .mul .i64 (.o .add .i64 (.o .mul .i64 (.o .add .i64 (.o .mul .i64 (.w .u8 (.o .shr .i64 (.v i) (.c 24))) (.c 256)) (.w .u8 (.o .shr .i64 (.v i) (.c 16)))) (.c 256)) (.w .u8 (.o .shr .i64 (.v i) (.c 8)))) (.c 256)) (.w .u8 (.v i))
def Tryz.rtF (i : Nat) : Ae.B × Bool := (.an (.an (.no (.lt (.v i) (.c 0))) (.lt (.v i) (.c 4294967296))) (.no (.eq (Tryz.rt i) (.v i))), false)
def Tryz.bnds : List Nat → List (Ae.B × Bool)
  | [] => []
  | i :: l => (.lt (.v i) (.c 0), false) :: (.lt (.c 255) (.v i), false) :: Tryz.bnds l
def Tryz.ids : List Nat := [6, 7, 8, 9, 10, 11, 12, 13, 14, 15, 16, 17]
def Tryz.bs : List Ae.V := Tryz.ids.map fun i => .sym .u8 (.v i)
noncomputable def Tryz.h1 : Ae.H := ⟨20, Ae.symsT 7, [Tryz.rtF 0, Tryz.rtF 1, (.eq (.v 6) (.c 12), false)]⟩
noncomputable def Tryz.h2 (fs : List (Ae.B × Bool)) : Ae.H := Ae.H.put ⟨21, Ae.symsT 18, fs ++ Tryz.rtF 0 :: Tryz.rtF 1 :: Tryz.bnds Tryz.ids⟩ 20 (.cells 12 1 Tryz.bs .nilm)
def Tryz.fA : List (Ae.B × Bool) := [(.lt (.c 1) (.v 17), false), (.lt (.c 7) (.v 14), false), (.lt (.c 7) (.v 15), false), (.lt (.c 7) (.v 16), false)]
def Tryz.fB : List (Ae.B × Bool) := [(.lt (.c 1) (.v 17), true)]
def Tryz.fC : List (Ae.B × Bool) := [(.lt (.c 1) (.v 17), false), (.lt (.c 7) (.v 14), true)]
def Tryz.fD : List (Ae.B × Bool) := [(.lt (.c 1) (.v 17), false), (.lt (.c 7) (.v 14), false), (.lt (.c 7) (.v 15), true)]
def Tryz.fE : List (Ae.B × Bool) := [(.lt (.c 1) (.v 17), false), (.lt (.c 7) (.v 14), false), (.lt (.c 7) (.v 15), false), (.lt (.c 7) (.v 16), true)]

set_option maxRecDepth 1000000
theorem Tryz.run1 : Ae.isTrue (Ae.run Tryz.tb Tryz.orcL 100000 (.call 3 [Tryz.rv, .osl (.v 6)]) Tryz.h1) = true := by decide +kernel
theorem Tryz.runA : Ae.isTrue (Ae.run Tryz.tb Tryz.orcL 100000 (.call 3 [Tryz.rv, .sl 20 0 12 12 false]) (Tryz.h2 Tryz.fA)) = true := by decide +kernel
theorem Tryz.runB : Ae.isTrue (Ae.run Tryz.tb Tryz.orcL 100000 (.call 3 [Tryz.rv, .sl 20 0 12 12 false]) (Tryz.h2 Tryz.fB)) = true := by decide +kernel
theorem Tryz.runC : Ae.isTrue (Ae.run Tryz.tb Tryz.orcL 100000 (.call 3 [Tryz.rv, .sl 20 0 12 12 false]) (Tryz.h2 Tryz.fC)) = true := by decide +kernel
theorem Tryz.runD : Ae.isTrue (Ae.run Tryz.tb Tryz.orcL 100000 (.call 3 [Tryz.rv, .sl 20 0 12 12 false]) (Tryz.h2 Tryz.fD)) = true := by decide +kernel
theorem Tryz.runE : Ae.isTrue (Ae.run Tryz.tb Tryz.orcL 100000 (.call 3 [Tryz.rv, .sl 20 0 12 12 false]) (Tryz.h2 Tryz.fE)) = true := by decide +kernel
end Go.Proofs
