/- The law ServerRights: its row and its card. -/
import Derived.Test.YtbjgflfdncikaaaGreatDoorEs
import Derived.Test.YtbjgflfdncikaaaGreatDoorTie
import Derived.Test.YtbjgflfdncikaaaGreatDoorCards
import Derived.WalkKit
import Derived.ProofKit
import Derived.OpenShut
import Derived.ChangeOld
import Derived.Below
import Derived.SizedLaws
import Derived.LaidMore
import Derived.Lay
import Derived.SevenTiedAt
import Derived.Stop.Joined
set_option linter.unusedVariables false
set_option linter.unusedSimpArgs false
namespace Go.Proofs.YtbjgflfdncikaaaGreatDoor
open Go Go.ChangeShapes Go.WideShapes Go.ChangeAt Go.RowKit

namespace ServerRights
theorem own : ownKnob Tryz.prog.godebug = none := by kernel_rfl
theorem laidOut : laidOutB Tryz.prog = true := by kernel_rfl
abbrev laid : List (String × DataW Unit) := [("math/bits.deBruijn32tab", Rows.laid_math_bits_deBruijn32tab), ("math/bits.deBruijn64tab", Rows.laid_math_bits_deBruijn64tab), ("internal/strconv.uint64pow10", Rows.laid_internal_strconv_uint64pow10)]

set_option maxRecDepth 100000
/-- the rights, opened: five numbers and a bool -/
theorem open_rights {H : Type} {enc : TypeId × Value → H} {W : World} {base : Nat} {t : Value} {d : DataW H} {p : List MemPlace} (ho : Value.okWide Tryz.prog W .any base 23 t)
    (h : DataW.Trod enc Tryz.prog W 0 (fun _ => true) true 23 t d p) : ∃ (o g fo fgr fa : Int) (bl : Bool), t = .agg #[.int .i64 o, .int .i64 g, .int .i64 fo, .int .i64 fgr, .int .i64 fa, .bool bl] := by
  obtain ⟨cs, rfl, hcs⟩ := okWide_struct Tryz.underlying23 ho
  obtain ⟨fuel, hf⟩ := h
  obtain ⟨xs, n, _, _, hl, hn, hel⟩ := DataW.trod_struct Tryz.underlying23 hf
  have c3 : Tryz.prog.cellsOf 3 = 1 := by kernel_rfl
  have c4 : Tryz.prog.cellsOf 4 = 1 := by kernel_rfl
  have c23 : Tryz.prog.cellsOf 23 = 6 := by kernel_rfl
  have e : (Value.cells (.agg cs)).toList = cs.toList := rfl
  rw [c23] at hcs
  have hlen : cs.toList.length = 6 := by simpa using hcs
  have hn6 : xs.length = 6 := by rw [hn]; rfl
  obtain ⟨l⟩ := cs
  have hlen : l.length = 6 := hlen
  match l, hlen with
  | [v0, v1, v2, v3, v4, v5], _ =>
    match xs, hn6 with
    | [x0, x1, x2, x3, x4, x5], _ =>
      have e0 : DataW.trod enc Tryz.prog W 0 (fun _ => true) true n 3 (([v0, v1, v2, v3, v4, v5].drop 0).take (Tryz.prog.cellsOf 3)) = some x0 := hel 0 _ rfl
      have e1 : DataW.trod enc Tryz.prog W 0 (fun _ => true) true n 3 (([v0, v1, v2, v3, v4, v5].drop 1).take (Tryz.prog.cellsOf 3)) = some x1 := hel 1 _ rfl
      have e2 : DataW.trod enc Tryz.prog W 0 (fun _ => true) true n 3 (([v0, v1, v2, v3, v4, v5].drop 2).take (Tryz.prog.cellsOf 3)) = some x2 := hel 2 _ rfl
      have e3 : DataW.trod enc Tryz.prog W 0 (fun _ => true) true n 3 (([v0, v1, v2, v3, v4, v5].drop 3).take (Tryz.prog.cellsOf 3)) = some x3 := hel 3 _ rfl
      have e4 : DataW.trod enc Tryz.prog W 0 (fun _ => true) true n 3 (([v0, v1, v2, v3, v4, v5].drop 4).take (Tryz.prog.cellsOf 3)) = some x4 := hel 4 _ rfl
      have e5 : DataW.trod enc Tryz.prog W 0 (fun _ => true) true n 4 (([v0, v1, v2, v3, v4, v5].drop 5).take (Tryz.prog.cellsOf 4)) = some x5 := hel 5 _ rfl
      rw [c3] at e0 e1 e2 e3 e4
      rw [c4] at e5
      obtain ⟨n0, f0, _⟩ := DataW.trod_int Tryz.underlying3 e0
      obtain ⟨n1, f1, _⟩ := DataW.trod_int Tryz.underlying3 e1
      obtain ⟨n2, f2, _⟩ := DataW.trod_int Tryz.underlying3 e2
      obtain ⟨n3, f3, _⟩ := DataW.trod_int Tryz.underlying3 e3
      obtain ⟨n4, f4, _⟩ := DataW.trod_int Tryz.underlying3 e4
      obtain ⟨b5, f5, _⟩ := DataW.trod_bool Tryz.underlying4 e5
      have z0 : v0 = _ := (List.cons.inj f0).1
      have z1 : v1 = _ := (List.cons.inj f1).1
      have z2 : v2 = _ := (List.cons.inj f2).1
      have z3 : v3 = _ := (List.cons.inj f3).1
      have z4 : v4 = _ := (List.cons.inj f4).1
      have z5 : v5 = _ := (List.cons.inj f5).1
      clear f0 f1 f2 f3 f4 f5 e0 e1 e2 e3 e4 e5 hel e hf ho hl
      rw [z0, z1, z2, z3, z4, z5]
      exact ⟨n0, n1, n2, n3, n4, b5, rfl⟩

/-- the listed variables lie in the heap -/
theorem heap_pos {W : World} (h : laidMetH Tryz.prog laid W) : 0 < W.heap.size := by
  rw [MakeChecks.laidMetH_plain _ _ _ (by kernel_rfl)] at h
  obtain ⟨ps, ⟨g, t, cs, fuel, p, q, hg, ht, hv, hd, _, _⟩, _, _⟩ := h
  unfold World.var? at hv
  rw [hg] at hv
  simp only [Option.bind_some] at hv
  cases hb : W.heap[g]? with
  | none => rw [hb] at hv; cases hv
  | some ob => exact Nat.lt_of_le_of_lt (Nat.zero_le _) (Array.getElem?_eq_some_iff.1 hb).1

theorem law {H : Type} {enc : TypeId × Value → H} (o g fo fgr fa : Int) (bl : Bool) {A : Option Addr} {n c : Nat} {W : World} {d : DataW H} {p : List MemPlace} (h0 : 0 < W.heap.size)
    (h : DataW.Trod enc Tryz.prog W 0 (fun _ => true) true 24 (.slice A n c) d p) :
    Calls Tryz.prog 3 #[.agg #[.int .i64 o, .int .i64 g, .int .i64 fo, .int .i64 fgr, .int .i64 fa, .bool bl], .slice A n c] W fun e w' => e = .returned (.bool true) ∧ Below W.heap.size W w' := by
  by_cases hn : n = 12
  · subst hn
    obtain ⟨fuel, hf⟩ := h
    rcases open_ints Tryz.underlying24 Tryz.underlying5 (by kernel_rfl) hf with ⟨hcs, _⟩ | ⟨x, l, c', zs, hcs, _, hl, hm, hz, _, hcell, hwz⟩
    · simp [Value.cells] at hcs
    · simp [Value.cells] at hcs
      obtain ⟨rfl, rfl, rfl⟩ := hcs
      have hz : zs.length = c := by simpa using hz
      refine Tryz.law2 o g fo fgr fa bl x c zs W hl hz (fun i hi => hcell i (by omega)) fun i hi => ?_
      have hi' : i < zs.length := by omega
      have hg : zs.getD i 0 = zs[i] := by simp [List.getD, List.getElem?_eq_getElem hi']
      have := hwz zs[i] (List.getElem_mem hi')
      rw [← hg] at this
      simpa [Lit.wf, IntKind.min, IntKind.max, IntKind.signed, IntKind.bits] using this
  · exact Tryz.law1 o g fo fgr fa bl A n c W h0 hn

theorem lifted (os : Os) (started : os.Started) (H : Type) (enc : TypeId × Value → H) :
    ReturnsInHanded {} Tryz.checked os 3 .any (fun w args => (Rows.serverRightsSpec.pre enc Tryz.prog Tryz.f3 [] false w args ∧ laidMetH Tryz.prog laid w) ∧ sizedMet enc Tryz.prog Tryz.f3 (OpenSpec.ofChange Rows.serverRightsSpec) false w args)
      (Rows.serverRightsSpec.post enc Tryz.prog Tryz.f3 false true false false) := by
  refine returnsInHanded_of_change_and (C := Tryz.checked) (X := fun w _ => laidMetH Tryz.prog laid w) (fun _ _ _ hh h => h.of_heap hh) own started (by kernel_rfl) Tryz.func3
    (ChangeSpec.witness_shaped (enc := enc) (C := Tryz.checked) (os := os) (X := fun w _ => laidMetH Tryz.prog laid w) false (World.laidAll Tryz.prog os laid) #[.agg #[.int .i64 0, .int .i64 0, .int .i64 0, .int .i64 0, .int .i64 0, .bool false], .slice none 0 0] 8 (World.laidAll_os _ _ _)
      (World.shaped_of_ZipB (by kernel_rfl) (by kernel_rfl)) (by kernel_rfl) (by kernel_rfl) (by kernel_rfl)
      (by rw [MakeChecks.laidMetH_plain _ _ _ (by kernel_rfl)]; exact laidMet_laidAll _ (by kernel_rfl) (by kernel_rfl))) ?_
  intro W base args ds gs before hval0 hW _ _ hL _
  have hval : ∀ (j : Nat) t v, Tryz.f3.params[j]? = some t → args[j]? = some v → Value.okWide Tryz.prog W .any base t v := hval0
  have hW' := hW
  obtain ⟨p, q, hA0, hV, rfl, hfz, hnd⟩ := hW
  have hA : DataW.TrodAll enc Tryz.prog W 0 (fun _ => true) true Tryz.f3.params.toList args.toList ds p := hA0
  rw [Tryz.params3] at hA hval
  obtain ⟨v0, v1, d0, d1, p0, p1, rfl, rfl, rfl, h0, h1⟩ := trodAll_two hA
  obtain ⟨rfl, rfl⟩ := trodVars_none hV
  obtain ⟨o, g, fo, fgr, fa, bl, rfl⟩ := open_rights (hval 0 23 v0 rfl rfl) h0
  obtain ⟨A, n, c, rfl⟩ := okWide_slice Tryz.underlying24 (hval 1 24 v1 rfl rfl)
  have k0 := h0
  have k1 := h1
  have lt0 : ∀ x ∈ p0, x.block < W.heap.size := by obtain ⟨m, hm⟩ := k0; exact DataW.trod_lt m _ _ _ hm
  have lt1 : ∀ x ∈ p1, x.block < W.heap.size := by obtain ⟨m, hm⟩ := k1; exact DataW.trod_lt m _ _ _ hm
  have hpos := heap_pos hL
  clear hA0 hval0
  refine (law (enc := enc) o g fo fgr fa bl hpos h1).mono fun e W' ⟨he, bel⟩ => ?_
  subst he
  exact ⟨_, rfl, _, _, _, [], _, [], hW', trodAll_mk1 (shut_bool Tryz.underlying4 _),
    trodAll_mk2 (Below.trod laidOut (by kernel_rfl) (of_decide_eq_true (by kernel_rfl)) k0 bel lt0) (Below.trod laidOut (by kernel_rfl) (of_decide_eq_true (by kernel_rfl)) k1 bel lt1), rfl, bel.frame _, fun h => by cases h⟩
end ServerRights
end Go.Proofs.YtbjgflfdncikaaaGreatDoor
