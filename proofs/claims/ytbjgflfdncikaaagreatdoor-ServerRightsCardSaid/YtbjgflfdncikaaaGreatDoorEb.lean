/- The executor against the machine: maps, append, calls, code, loops. -/
import Derived.Test.YtbjgflfdncikaaaGreatDoorEa
import Derived.Laws.RangeAny
import Derived.Laws.IdiomRangeMap
import Derived.Lib.Bytealg
import Derived.Laws.Externs
import Derived.RangeFuncLeaves
import Derived.TacticsIn
import Derived.OrdersIn
set_option linter.unusedVariables false
set_option linter.unusedSimpArgs false
set_option linter.unusedSectionVars false
namespace Ae
open Go

section
variable {P : Tb} {μ : Mu} {h : H} {w : World}

theorem opPick_ok {a : A} {A' : Act} (ha : AR μ a A') (c x y : Operand) : SNext P μ h w (do pure (.value (if ← asBool (A'.eval c) then A'.eval x else A'.eval y))) (opPick c x y P a h) := by
  unfold opPick
  cases hc : (a.ev c).bool? with
  | none => trivial
  | some b =>
    simp only [opt_some]
    have hv := ev_vr ha c
    rw [V.bool?_some hc] at hv
    refine ⟨if b then A'.eval x else A'.eval y, by rw [hv.bool]; simp [asBool], ?_⟩
    cases b
    · exact ev_vr ha y
    · exact ev_vr ha x

theorem opExtract_ok {a : A} {A' : Act} (ha : AR μ a A') (x : Operand) (i : Nat) : SVal P μ h w (Instr.extract (A'.eval x) i) (opExtract x i P a h) := by
  unfold opExtract
  refine SVal.opt' fun vs hvs => SVal.of fun v hv => ?_
  have hx := ev_vr ha x
  rw [V.tup?_some hvs] at hx
  obtain ⟨us, he, h1⟩ := hx.tup
  rw [he]
  have hnth : ∀ (l : List V) (j : Nat) (u : V), nth l j = some u → j < l.length ∧ lget .any l j = u := by
    intro l
    induction l with
    | nil => intro j u hj; cases j <;> cases hj
    | cons y l ih =>
      intro j u hj
      cases j with
      | zero => cases hj; exact ⟨by simp, rfl⟩
      | succ j => obtain ⟨h1, h2⟩ := ih j u hj; exact ⟨by simpa using h1, h2⟩
  obtain ⟨h2, h3⟩ := hnth _ _ _ hv
  obtain ⟨u, h4, h5⟩ := h1.get i .any h2
  refine ⟨u, ?_, h3 ▸ h5⟩
  have : us[i]? = some u := by simpa using h4
  simp [Instr.extract, this]

theorem opMkFunc_ok {a : A} {A' : Act} (ha : AR μ a A') (fn : Fn) (first cap : Array Operand) :
    SVal P μ h w (Instr.makeFunc fn (first.map A'.eval) (cap.map A'.eval)) (opMkFunc fn first cap P a h) := by
  unfold opMkFunc
  cases fn <;> try trivial
  rename_i f
  refine ⟨_, rfl, ?_⟩
  simp only [VR]
  refine ⟨_, _, rfl, ?_, ?_⟩
  · rw [Array.toList_map]; exact evs_vr ha _
  · rw [Array.toList_map]; exact evs_vr ha _

theorem natI_spec {n : Int} {k : Nat} (h : natI n = some k) : n = (k : Int) := natI_some h

/-! ### bounds -/
theorem boundO_ok {x : Option V} {x' : Option Value} (hx : match x, x' with | none, none => True | some v, some v' => VR μ v v' | _, _ => False) {y d n : Nat} (hb : boundO x y d = some n) :
    (x = none ∧ x' = none ∧ n = d) ∨ ∃ v k, x = some v ∧ x' = some (.int k (n : Int)) ∧ n ≤ y := by
  cases x with
  | none => cases x' with
    | none => simp only [boundO, Option.some.injEq] at hb; exact .inl ⟨rfl, rfl, hb.symm⟩
    | some v' => exact hx.elim
  | some v => cases x' with
    | none => exact hx.elim
    | some v' =>
      refine .inr ?_
      simp only [boundO] at hb
      cases v <;> simp only [bound] at hb <;> try (cases hb; done)
      rename_i k i
      have hv : v' = .int k i := VR.int hx
      cases hc : (decide (0 ≤ i) && decide (i ≤ (y : Int))) with
      | false => simp [hc] at hb
      | true =>
        simp only [hc, cond_true, Option.some.injEq] at hb
        simp only [Bool.and_eq_true, decide_eq_true_eq] at hc
        subst hb
        refine ⟨_, k, rfl, ?_, by omega⟩
        rw [hv, Int.toNat_of_nonneg hc.1]
theorem run_sliceBound {P : Program} (k : IntKind) (n y : Nat) (hn : n ≤ y) (code : BoundsCode) (w : World) : (Instr.sliceBound (.int k (n : Int)) y code).run P w = .ok n w := by
  unfold Instr.sliceBound
  simp [asIntOf]; omega

def ORel (μ : Mu) (x : Option V) (x' : Option Value) : Prop := match x, x' with | none, none => True | some v, some v' => VR μ v v' | _, _ => False
theorem evO_vr {a : A} {A' : Act} (ha : AR μ a A') (x : Option Operand) : ORel μ (evO a x) (x.map A'.eval) := by
  cases x with
  | none => trivial
  | some x => exact ev_vr ha x

theorem bounds_ok {P : Program} (isSlice : Bool) {len cap cap' : Nat} (hc : cap ≤ cap') (hl : len ≤ cap') {lo hi mx : Option V} {lo' hi' mx' : Option Value} (h1 : ORel μ lo lo') (h2 : ORel μ hi hi') (h3 : ORel μ mx mx')
    {q : Bds} (hq : bounds len cap lo hi mx = some q) :
    ∃ m, (Instr.sliceBounds isSlice len cap' lo' hi' mx').run P w = .ok (q.l, q.h, m) w ∧ q.l ≤ q.h ∧ q.h ≤ m ∧ q.m ≤ m ∧ m ≤ cap' ∧ mx.isSome = mx'.isSome ∧ (mx.isSome = true → m = q.m) ∧ (mx.isSome = false → m = cap' ∧ q.m = cap) := by
  unfold bounds at hq
  split at hq
  · cases hq
  · rename_i hne
    cases hm : boundO mx cap cap with
    | none => simp [hm] at hq
    | some m =>
      cases hh : boundO hi m len with
      | none => simp [hm, hh] at hq
      | some hgh =>
        cases hlo : boundO lo hgh 0 with
        | none => simp [hm, hh, hlo] at hq
        | some l =>
          simp only [hm, hh, hlo, Option.some.injEq] at hq
          subst hq
          rcases boundO_ok h3 hm with ⟨rfl, rfl, rfl⟩ | ⟨vm, km, rfl, rfl, hm1⟩ <;>
          rcases boundO_ok h2 hh with ⟨rfl, rfl, rfl⟩ | ⟨vh, kh, rfl, rfl, hh1⟩ <;>
          rcases boundO_ok h1 hlo with ⟨rfl, rfl, rfl⟩ | ⟨vl, kl, rfl, rfl, hl1⟩
          · exact ⟨cap', by unfold Instr.sliceBounds; simp, by simp, hl, hc, Nat.le_refl _, rfl, by simp, by simp⟩
          · exact ⟨cap', by unfold Instr.sliceBounds; simp [run_sliceBound (P := P) kl l _ hl1], hl1, hl, hc, Nat.le_refl _, rfl, by simp, by simp⟩
          · exact ⟨cap', by unfold Instr.sliceBounds; simp [run_sliceBound (P := P) kh hgh cap' (by omega)], by simp, (show hgh ≤ cap' by omega), hc, Nat.le_refl _, rfl, by simp, by simp⟩
          · exact ⟨cap', by unfold Instr.sliceBounds; simp [run_sliceBound (P := P) kh hgh cap' (by omega), run_sliceBound (P := P) kl l _ hl1], hl1, (show hgh ≤ cap' by omega), hc, Nat.le_refl _, rfl, by simp, by simp⟩
          · exact absurd rfl (hne _ rfl)
          · exact absurd rfl (hne _ rfl)
          · exact ⟨m, by unfold Instr.sliceBounds; simp [run_sliceBound (P := P) km m cap' (by omega), run_sliceBound kh _ m hh1], by simp, hh1, Nat.le_refl _, by omega, rfl, by simp, by simp⟩
          · exact ⟨m, by unfold Instr.sliceBounds; simp [run_sliceBound (P := P) km m cap' (by omega), run_sliceBound kh _ m hh1, run_sliceBound (P := P) kl l _ hl1], hl1, hh1, Nat.le_refl _, by omega, rfl, by simp, by simp⟩

variable (ok : P.Ok)
include ok

theorem opMkIface_ok {a : A} {A' : Act} (ha : AR μ a A') (t : TypeId) (x : Operand) : SVal P μ h w (Instr.makeInterface t (A'.eval x)) (opMkIface t x P a h) := by
  unfold opMkIface
  cases hu : P.underlying t with
  | none => simp only [hu]; trivial
  | some d =>
    have hv : VR μ (.ifc t (a.ev x)) (.iface t (A'.eval x)) := by simp only [VR]; exact ⟨_, rfl, ev_vr ha x⟩
    cases d <;> simp only [hu] <;> first
      | trivial
      | exact ⟨_, by simp [Instr.makeInterface, run_und ok w hu], hv⟩

theorem opFieldAddr_ok {a : A} {A' : Act} (ha : AR μ a A') (t : TypeId) (x : Operand) (i : Nat) : SVal P μ h w (Instr.fieldAt t (A'.eval x) i) (opFieldAddr t x i P a h) := by
  unfold opFieldAddr
  refine SVal.ptrK fun b o he => SVal.opt' fun k hk => ?_
  have hx := ev_vr ha x
  rw [he] at hx
  obtain ⟨L, hb, hv⟩ := hx.ptr
  unfold fieldOff at hk
  cases hf : fieldT P t i with
  | none => simp [hf] at hk
  | some f =>
    cases hs : sizeT P f.type with
    | none => simp [hf, hs] at hk
    | some s =>
      simp only [hf, hs] at hk
      cases hz : Nat.beq s 0 with
      | true => simp [hz] at hk
      | false =>
        simp only [hz, cond_false, Option.some.injEq] at hk
        subst hk
        have hs0 : s ≠ 0 := fun e => by subst e; cases hz
        obtain ⟨fs, h1, h2⟩ := fieldT_und hf
        rw [frc_eq]
        refine ⟨.pointer (some ⟨L.blk, L.base + (o + f.offset), none⟩), ?_, by simp only [VR]; exact ⟨L, hb, rfl⟩⟩
        rw [hv]
        unfold Instr.fieldAt
        simp [run_und ok w h1, h2, Instr.sureAddr, fieldPlace, run_size ok w hs, hs0, add_eq]
        omega

theorem opField_ok {a : A} {A' : Act} (ha : AR μ a A') (t : TypeId) (x : Operand) (i : Nat) : SVal P μ h w (Instr.field t (A'.eval x) i) (opField t x i P a h) := by
  unfold opField
  cases hg : (a.ev x).agg? with
  | none => simp only [hg]; trivial
  | some cs =>
    cases hf : fieldT P t i with
    | none => simp only [hg, hf]; trivial
    | some f =>
      simp only [hg, hf]
      refine SVal.of fun y hy => ?_
      have hx := ev_vr ha x
      rw [V.agg?_some hg] at hx
      obtain ⟨vs, he, h1⟩ := hx.agg
      obtain ⟨fs, h2, h3⟩ := fieldT_und hf
      obtain ⟨v, h4, h5⟩ := apart_ok (w := w) ok h1 hy
      refine ⟨v, ?_, h5⟩
      rw [he]; unfold Instr.field
      simp [run_und ok w h2, h3, asAgg, h4]

theorem opIndexAddr_ok {a : A} {A' : Act} (ha : AR μ a A') (t : TypeId) (x y : Operand) : SVal P μ h w (Instr.indexAt t (A'.eval x) (A'.eval y)) (opIndexAddr t x y P a h) := by
  unfold opIndexAddr
  refine SVal.opt' fun s hs => ?_
  unfold esT at hs
  cases he : elemT P t with
  | none => simp [he] at hs
  | some e =>
    simp only [he] at hs
    rw [slK_eq]
    cases hx : a.ev x <;> try trivial
    rename_i b off len cap ex
    refine SVal.intK fun kk n hn => SVal.opt' fun k hk => SVal.sel' fun hlt => ?_
    have hlt' : k < len := Nat.le_of_ble_eq_true hlt
    have hxv := ev_vr ha x
    rw [hx] at hxv
    obtain ⟨L, ad, c', hb, hv, hsl⟩ := hxv.sl
    have hyv := ev_vr ha y
    rw [hn] at hyv
    have hn' := natI_some hk
    subst hn'
    have hat : ad = ⟨L.blk, L.base + off, none⟩ := hsl.at_.resolve_left (by have := hsl.len; omega)
    rw [frc_eq]
    refine ⟨.pointer (some ⟨L.blk, L.base + (off + k * s), none⟩), ?_, by simp only [VR]; exact ⟨L, hb, rfl⟩⟩
    rw [hv, hyv.int]
    unfold Instr.indexAt
    have hr : (0 : Int) ≤ (k : Int) ∧ (k : Int) < (len : Int) := by omega
    simp [asIntOf, run_und ok w (elemT_und he), hat, run_size ok w hs, add_eq]
    rw [if_pos hlt']
    simp; omega

theorem opIndex_ok {a : A} {A' : Act} (ha : AR μ a A') (t : TypeId) (x y : Operand) : SVal P μ h w (Instr.index t (A'.eval x) (A'.eval y)) (opIndex t x y P a h) := by
  unfold opIndex
  cases hn : (a.ev y).num? with
  | none => simp only [hn]; trivial
  | some n =>
    simp only [hn]
    refine SVal.of fun z hz => ?_
    obtain ⟨k, hk⟩ := V.num?_some hn
    have hyv := ev_vr ha y
    rw [hk] at hyv
    have hxv := ev_vr ha x
    unfold aindex at hz
    cases h0 : decide (0 ≤ n) with
    | false => simp [h0] at hz
    | true =>
      simp only [h0, cond_true] at hz
      have h0' : 0 ≤ n := by simpa using h0
      cases hu : P.underlying t with
      | none => simp [hu] at hz
      | some d =>
        cases d <;> simp only [hu] at hz <;> try (cases hz; done)
        case string =>
          cases hx : a.ev x <;> simp only [hx] at hz <;> try (cases hz; done)
          rename_i s
          rw [hx] at hxv
          obtain ⟨bs, hv, hbs⟩ := hxv.str
          cases hg : s[n.toNat]? with
          | none => simp [hg] at hz
          | some c =>
            simp only [hg, Option.some.injEq] at hz
            subst hz
            have hlt : n.toNat < bs.size := by
              have := (List.getElem?_eq_some_iff.1 hg).1
              rw [bytes_len bs hbs] at this; exact this
            have hb : bs[n.toNat]? = some (bs[n.toNat]'hlt) := ByteArray.getElem?_lt' bs _ hlt
            have hc : (bs[n.toNat]'hlt).toNat = c := by
              rw [← hbs, List.getElem?_map] at hg
              have : bs.data.toList[n.toNat]? = some (bs[n.toNat]'hlt) := by
                rw [Array.getElem?_toList, Array.getElem?_eq_getElem (show n.toNat < bs.data.size from hlt)]; rfl
              rw [this] at hg; simpa using hg
            refine ⟨.int .u8 (c : Int), ?_, by simp [VR]⟩
            rw [hv, hyv.int]
            unfold Instr.index
            simp [asIntOf, run_und ok w hu, h0', hb, hc]
        case array len e =>
          cases hx : a.ev x <;> simp only [hx] at hz <;> try (cases hz; done)
          rename_i cs
          rw [hx] at hxv
          obtain ⟨vs, hv, hvs⟩ := hxv.agg
          cases hl : decide (n < (len : Int)) with
          | false => simp [hl] at hz
          | true =>
            simp only [hl, cond_true] at hz
            cases hs : sizeT P e with
            | none => simp [hs] at hz
            | some s =>
              simp only [hs] at hz
              obtain ⟨v, h4, h5⟩ := apart_ok (w := w) ok hvs hz
              refine ⟨v, ?_, h5⟩
              rw [hv, hyv.int]
              unfold Instr.index
              have : n < (len : Int) := by simpa using hl
              simp [asIntOf, run_und ok w hu, h0', this, run_size ok w hs, h4]

theorem opTypeAssert_ok {a : A} {A' : Act} (ha : AR μ a A') (x : Operand) (s t : TypeId) (k : Bool) : SVal P μ h w (Instr.typeAssert (A'.eval x) s t k) (opTypeAssert x s t k P a h) := by
  unfold opTypeAssert
  refine SVal.of fun z hz => ?_
  have hxv := ev_vr ha x
  unfold atypeAssert at hz
  cases hu : P.underlying t with
  | none => simp [hu] at hz
  | some d =>
    have hd : (∀ ms, d ≠ .interface ms) := fun ms e => by subst e; simp [hu] at hz
    have hz' : (match a.ev x with
      | .ifc t' v => bif Nat.beq t' t then some (bif k then .tup [v, .bool true] else v)
          else bif k then (zeroT P t).map fun z => .tup [z, .bool false] else none
      | .nili => bif k then (zeroT P t).map fun z => .tup [z, .bool false] else none
      | _ => none) = some z := by
      simp only [hu] at hz
      cases d <;> first | exact hz | exact absurd rfl (hd _)
    clear hz
    have zer : ∀ (st dy : Option TypeId) (m : String), k = true → (zeroT P t).map (fun z => V.tup [z, .bool false]) = some z →
        ∃ v, (zeroValue t).run P.P w = .ok v w ∧ VR μ z (.tuple #[v, .bool false]) := by
      intro st dy m hk hz
      cases h1 : zeroT P t with
      | none => simp [h1] at hz
      | some z0 =>
        simp only [h1, Option.map_some, Option.some.injEq] at hz
        obtain ⟨v, h2, h3⟩ := zero_of ok w h1
        refine ⟨v, h2, ?_⟩
        rw [← hz]; simp only [VR, VRs]
        exact ⟨_, rfl, v, _, rfl, h3 ▸ ofVal_vr μ v, _, _, rfl, rfl, rfl⟩
    cases hx : a.ev x <;> simp only [hx] at hz' <;> try (cases hz'; done)
    case ifc t' v =>
      rw [hx] at hxv
      simp only [VR] at hxv
      obtain ⟨u, he, hu'⟩ := hxv
      rw [he]
      cases hb : Nat.beq t' t with
      | true =>
        simp only [hb, cond_true, Option.some.injEq] at hz'
        have := Nat.eq_of_beq_eq_true hb
        subst this
        refine ⟨if k then .tuple #[u, .bool true] else u, ?_, ?_⟩
        · unfold Instr.typeAssert
          simp only [Sem.run_bind, run_und ok w hu, Result.andThen_ok]
          cases d <;> first | exact absurd rfl (hd _) | simp
        · cases k
          · simp only [cond_false] at hz'; subst hz'; exact hu'
          · simp only [cond_true] at hz'; subst hz'
            simp only [VR, VRs, if_true]
            exact ⟨_, rfl, u, _, rfl, hu', _, _, rfl, rfl, rfl⟩
      | false =>
        simp only [hb, cond_false] at hz'
        have hne : ¬ t' = t := fun e => by subst e; simp at hb
        cases k with
        | false => simp at hz'
        | true =>
          simp only [cond_true] at hz'
          obtain ⟨v0, h1, h2⟩ := zer none none "" rfl hz'
          refine ⟨_, ?_, h2⟩
          unfold Instr.typeAssert
          simp only [Sem.run_bind, run_und ok w hu, Result.andThen_ok]
          cases d <;> first | exact absurd rfl (hd _) | simp [hne, h1]
    case nili =>
      rw [hx] at hxv
      have he : A'.eval x = .nilIface := by simpa [VR] using hxv
      rw [he]
      cases k with
      | false => simp at hz'
      | true =>
        simp only [cond_true] at hz'
        obtain ⟨v0, h1, h2⟩ := zer none none "" rfl hz'
        refine ⟨_, ?_, h2⟩
        unfold Instr.typeAssert
        simp only [Sem.run_bind, run_und ok w hu, Result.andThen_ok]
        cases d <;> first | exact absurd rfl (hd _) | simp [h1]

variable (r : RR μ h w.heap)
include r
theorem opMkMap_ok {a : A} {A' : Act} (ha : AR μ a A') (t : TypeId) (x : Option Operand) : SVal P μ h w (Instr.makeMap t (x.map A'.eval)) (opMkMap t x P a h) := by
  have key : SVal P μ h w (do pure (.map (some (← newObj (.map #[] 0)))) : Sem Value) (alloc h .mp (.map 0 [])) := by
    rw [alloc_eq]
    refine ⟨.map (some w.heap.size), w.alloc (.map #[] 0), _, by simp, r.alloc (.map 0 []) (.map #[] 0) ⟨w.heap.size, 0, 0, 0⟩ rfl (fun _ _ _ _ => by simp) ?_, ?_⟩
    · exact ⟨#[], 0, push_new, ⟨⟨[], .refl _, rfl⟩, by simp, by simp, trivial⟩⟩
    · simp only [VR]; exact ⟨_, muNew_same _ _ _, rfl⟩
  unfold opMkMap
  cases x with
  | none => simpa [Instr.makeMap] using key
  | some x =>
    simp only
    cases hm : isMapT P t with
    | false => trivial
    | true =>
      simp only [cond_true]
      cases hn : (a.ev x).num? with
      | none => simp only [hn]; trivial
      | some n =>
        simp only [hn]
        obtain ⟨k, hk⟩ := V.num?_some hn
        have hxv := ev_vr ha x
        rw [hk] at hxv
        obtain ⟨kt, e, hu⟩ := isMapT_und hm
        rw [alloc_eq] at key ⊢
        obtain ⟨v', w', μ', h1, h2⟩ := key
        refine ⟨v', w', μ', ?_, h2⟩
        rw [← h1]
        simp [Instr.makeMap, run_und ok w hu, hxv.int, asInt, asIntOf]

theorem opMkSlice_ok {a : A} {A' : Act} (ha : AR μ a A') (t : TypeId) (x y : Operand) : SVal P μ h w (Instr.makeSlice t (A'.eval x) (A'.eval y)) (opMkSlice t x y P a h) := by
  unfold opMkSlice
  cases h1 : (a.ev x).num? with
  | none => simp only [h1]; trivial
  | some l =>
    cases h2 : (a.ev y).num? with
    | none => simp only [h1, h2]; trivial
    | some c =>
      cases h3 : elemT P t with
      | none => simp only [h1, h2, h3]; trivial
      | some e =>
        cases h4 : zcellsT P e with
        | none => simp only [h1, h2, h3, h4]; trivial
        | some z =>
          cases h5 : P.info? e with
          | none => simp only [h1, h2, h3, h4, h5]; trivial
          | some i =>
            simp only [h1, h2, h3, h4, h5]
            cases hb : (decide (0 ≤ l) && decide (l ≤ c) && decide (c ≤ 1048576) && Nat.ble i.bytes 65536) with
            | false => trivial
            | true =>
              simp only [cond_true]
              simp only [Bool.and_eq_true, decide_eq_true_eq] at hb
              obtain ⟨⟨⟨hl0, hlc⟩, hcb⟩, hby⟩ := hb
              have hby := Nat.le_of_ble_eq_true hby
              obtain ⟨kx, hx⟩ := V.num?_some h1
              obtain ⟨ky, hy⟩ := V.num?_some h2
              have hxv := ev_vr ha x
              have hyv := ev_vr ha y
              rw [hx] at hxv; rw [hy] at hyv
              obtain ⟨zv, s, h6, h7, hzz, h8, h9⟩ := zcellsT_spec h4
              obtain ⟨zr, h10, hzr⟩ := zero_of ok w h6
              have hzs := zcells_vr μ zr
              have hzl : z.length = zr.cells.size := by rw [hzz, hzr]; simpa using hzs.length
              have hsz : s = zr.cells.size := by omega
              have hwl : IntKind.i64.wrap l = l := wrap_i64' l (by omega) (by omega)
              have hwc : IntKind.i64.wrap c = c := wrap_i64' c (by omega) (by omega)
              have hprod : (i.bytes : Int) * c ≤ 65536 * 1048576 := Int.mul_le_mul (by omega) hcb (by omega) (by omega)
              have hprodl : (i.bytes : Int) * l ≤ 65536 * 1048576 := Int.mul_le_mul (by omega) (by omega) (by omega) (by omega)
              -- what runs
              have hrun : (Instr.makeSlice t (A'.eval x) (A'.eval y)).run P.P w = .ok (.slice (some ⟨w.heap.size, 0, none⟩) l.toNat c.toNat)
                  (w.alloc (.cells ((Array.range (c.toNat * zr.cells.size)).map (zr.cells[· % zr.cells.size]!)) e)) := by
                rw [hxv.int, hyv.int]
                unfold Instr.makeSlice
                simp only [Sem.run_bind, run_und ok w (elemT_und h3), Result.andThen_ok, asInt, asIntOf, Sem.run_pure, run_info ok w h5, hwl, hwc]
                rw [if_neg (by
                  have e1 : ¬ c < 0 := by omega
                  have e2 : (i.bytes : Int) * c ≤ 281474976710656 := by omega
                  have e3 : ¬ l < 0 := by omega
                  have e4 : ¬ l > c := by omega
                  simp [e1, e2, e3, e4])]
                simp only [Sem.run_pure, Result.andThen_ok, Sem.run_bind, run_askRoom, run_size ok w h7]
                by_cases hn : c.toNat * s = 0
                · have hc0 : c.toNat = 0 := by rcases Nat.mul_eq_zero.1 hn with h | h <;> omega
                  have e1 : ∀ (q : Nat) (f : Nat → Value), (Array.range (0 * q)).map f = #[] := fun q f => by simp [Array.range]
                  rw [if_pos hn]
                  simp only [hc0, Sem.run_bind, Sem.run_pure, Result.andThen_ok, e1, newRow_run]
                · rw [if_neg hn]
                  simp only [Sem.run_bind, h10, Sem.run_pure, Result.andThen_ok, newRow_run, hsz]
              have hrow : ∀ j, j < c.toNat * zr.cells.size → ∃ v, ((Array.range (c.toNat * zr.cells.size)).map (zr.cells[· % zr.cells.size]!))[j]? = some v ∧ VR μ (lget .any z (j % zr.cells.size)) v := by
                intro j hj
                obtain ⟨v, h11, h12⟩ := zeroRow_get zr.cells (c.toNat * zr.cells.size) j hj (by omega)
                have hm : j % zr.cells.size < z.length := by rw [hzl]; exact Nat.mod_lt _ (by omega)
                have hzs' : VRs μ z zr.cells.toList := by rw [hzz, hzr]; exact hzs
                obtain ⟨u, h13, h14⟩ := hzs'.get (j % zr.cells.size) .any hm
                rw [Array.getElem?_toList, h12] at h13; cases h13
                exact ⟨v, h11, h14⟩
              have hcsz : ((Array.range (c.toNat * zr.cells.size)).map (zr.cells[· % zr.cells.size]!)).size = c.toNat * zr.cells.size := by simp
              have hsl : ∀ (L : Loc), L.blk = w.heap.size → L.base = 0 → SlR L 0 l.toNat c.toNat true ⟨w.heap.size, 0, none⟩ c.toNat := fun L e1 e2 =>
                ⟨Nat.le_refl _, fun _ => rfl, by omega, e1.symm, rfl, .inr (by rw [e1, e2]), fun e => by cases e⟩
              have fin : ∀ (n es : Nat) (cl : List V) (d : V), n ≤ c.toNat * zr.cells.size → (∀ j, j < n → lget d cl j = lget .any z (j % zr.cells.size)) →
                  SVal P μ h w (Instr.makeSlice t (A'.eval x) (A'.eval y)) (alloc h (fun b => .sl b 0 l.toNat c.toNat true) (.cells n es cl d)) := by
                intro n es cl d hn hcl
                rw [alloc_eq]
                refine ⟨_, _, _, hrun, alloc_cells r n es cl d _ e (by rw [hcsz]; exact hn) fun j hj => ?_, ?_⟩
                · obtain ⟨v, h11, h12⟩ := hrow j (by omega)
                  exact ⟨v, h11, by rw [hcl j hj]; exact h12⟩
                · simp only [VR]
                  exact ⟨_, _, _, muNew_same _ _ _, rfl, hsl _ rfl rfl⟩
              split
              · rename_i z0
                rw [frc_eq, frc_eq]
                have h1z : zr.cells.size = 1 := by simpa using hzl.symm
                refine fin _ _ _ _ (by rw [h1z]; omega) fun j hj => ?_
                rw [h1z, Nat.mod_one]; rfl
              · rw [frc_eq, frc_eq, hzl]
                refine fin _ _ _ _ (Nat.le_refl _) fun j hj => ?_
                rw [lget_repl _ _ (by omega) _ _ (by rw [hzl]; exact hj), hzl]

theorem opSlice_ok {a : A} {A' : Act} (ha : AR μ a A') (t : TypeId) (x : Operand) (lo hi mx : Option Operand) :
    SVal P μ h w (Instr.sliceAt t (A'.eval x) (lo.map A'.eval) (hi.map A'.eval) (mx.map A'.eval)) (opSlice t x lo hi mx P a h) := by
  unfold opSlice
  refine SVal.of fun z hz => ?_
  have hxv := ev_vr ha x
  have hlo := evO_vr ha lo
  have hhi := evO_vr ha hi
  have hmx := evO_vr ha mx
  unfold aslice at hz
  cases hx : a.ev x <;> simp only [hx] at hz <;> try (cases hz; done)
  case str s =>
    rw [hx] at hxv
    obtain ⟨bs, hv, hbs⟩ := hxv.str
    cases hu : P.underlying t with
    | none => simp [hu] at hz
    | some d =>
      cases d <;> simp only [hu] at hz <;> try (cases hz; done)
      cases hm : evO a mx with
      | some m => simp [hm] at hz
      | none =>
        simp only [hm] at hz
        have hmx' : mx.map A'.eval = none := by
          rw [hm] at hmx; cases e : mx.map A'.eval with
          | none => rfl
          | some v => rw [e] at hmx; exact hmx.elim
        cases hq : bounds s.length s.length (evO a lo) (evO a hi) none with
        | none => simp [hq] at hz
        | some q =>
          simp only [hq, Option.some.injEq] at hz
          subst hz
          rw [bytes_len bs hbs] at hq
          obtain ⟨m, h1, h2, h3, h4, h5, h6⟩ := bounds_ok (P := P.P) (w := w) false (Nat.le_refl bs.size) (Nat.le_refl _) hlo hhi (show ORel μ none none from trivial) hq
          refine ⟨.string (bs.extract q.l q.h), ?_, ?_⟩
          · rw [hv, hmx']
            unfold Instr.sliceAt
            simp only [Sem.run_bind, run_und ok w hu, Result.andThen_ok]
            unfold Instr.slice
            simp [run_und ok w hu, h1]
          · simp only [VR]
            refine ⟨_, rfl, ?_⟩
            rw [← hbs]
            simp [ByteArray.data_extract, List.map_drop, List.map_take]
  case nils len cap =>
    rw [hx] at hxv
    cases he : elemT P t with
    | none => simp [he] at hz
    | some e =>
      cases hq : bounds len cap (evO a lo) (evO a hi) (evO a mx) with
      | none => simp [he, hq] at hz
      | some q =>
        cases hs : sizeT P e with
        | none => simp [he, hq, hs] at hz
        | some s =>
          simp only [he, hq, hs] at hz
          cases hlb : Nat.ble len cap with
          | false => simp [hlb] at hz
          | true =>
            have hlc := Nat.le_of_ble_eq_true hlb
            simp only [hlb, sel_true, Option.some.injEq] at hz
            subst hz
            obtain ⟨m, h1, h2, h3, h4, h5, h6, h7, h8⟩ := bounds_ok (P := P.P) (w := w) true (Nat.le_refl cap) hlc hlo hhi hmx hq
            have hmq : m = q.m := by
              cases hms : (evO a mx).isSome with
              | true => exact h7 hms
              | false => obtain ⟨e1, e2⟩ := h8 hms; omega
            refine ⟨.slice none (q.h - q.l) (q.m - q.l), ?_, by simp [VR]⟩
            rw [hxv.nils]
            unfold Instr.sliceAt
            simp only [Sem.run_bind, run_und ok w (elemT_und he), Result.andThen_ok]
            unfold Instr.slice
            simp [run_und ok w (elemT_und he), h1, run_size ok w hs, hmq]
  case sl b off len cap ex =>
    rw [hx] at hxv
    obtain ⟨L, ad, c', hb, hv, hsl⟩ := hxv.sl
    cases he : elemT P t with
    | none => simp [he] at hz
    | some e =>
      cases hs : sizeT P e with
      | none => simp [he, hs] at hz
      | some s =>
        cases hq : bounds len cap (evO a lo) (evO a hi) (evO a mx) with
        | none => simp [he, hs, hq] at hz
        | some q =>
          simp only [he, hs, hq] at hz
          cases hc : (sel ex true (sel (evO a mx).isSome true (esOK h b s))) with
          | false => simp [hc] at hz
          | true =>
            simp only [hc, sel_true, frc_eq, Option.some.injEq] at hz
            subst hz
            obtain ⟨m, h1, h2, h3, h4, h5, h6, h7, h8⟩ := bounds_ok (P := P.P) (w := w) true hsl.le hsl.len hlo hhi hmx hq
            refine ⟨.slice (some (if m = q.l then ad else ad.add (q.l * s))) (q.h - q.l) (m - q.l), ?_, ?_⟩
            · rw [hv]
              unfold Instr.sliceAt
              simp only [Sem.run_bind, run_und ok w (elemT_und he), Result.andThen_ok]
              unfold Instr.slice
              simp [run_und ok w (elemT_und he), h1, run_size ok w hs]
              split <;> rfl
            · simp only [VR]
              refine ⟨L, _, _, hb, rfl, by omega, ?_, by omega, ?_, ?_, ?_, ?_⟩
              · intro hex
                cases hms : (evO a mx).isSome with
                | true => rw [h7 hms]
                | false =>
                  cases ex with
                  | true => obtain ⟨e1, e2⟩ := h8 hms; have := hsl.xct rfl; omega
                  | false => rw [hms] at hex; cases hex
              · split
                · exact hsl.blk
                · unfold Addr.add; split <;> exact hsl.blk
              · split
                · exact hsl.spot
                · unfold Addr.add; split
                  · exact hsl.spot
                  · rfl
              · by_cases e0 : m = q.l
                · left; omega
                · right
                  rw [if_neg e0]
                  have := hsl.at_.resolve_left (by omega)
                  rw [this, add_eq]
                  congr 1; omega
              · intro hex
                cases ex with
                | true => cases hex
                | false =>
                  rw [sel_false] at hex hc
                  rw [hex, sel_false] at hc
                  obtain ⟨e1, e2⟩ := h8 hex
                  have hroom := hsl.room rfl
                  have hes : L.es = s := by
                    unfold esOK at hc
                    have ho := r.obj b L hb
                    cases hg : h.get b <;> simp only [hg] at hc <;> try (cases hc; done)
                    rw [hg] at ho
                    obtain ⟨_, _, _, _, _, h9, _⟩ := ho
                    rw [h9]; exact Nat.eq_of_beq_eq_true hc
                  rw [hes] at hroom ⊢
                  have : q.l * s + (m - q.l) * s = m * s := by rw [← Nat.add_mul]; congr 1; omega
                  rw [e1] at this ⊢
                  omega
end
end Ae

namespace Ae
open Go

theorem run_getObj_of {P : Program} {w : World} {b : Nat} {o : Obj} (h : w.heap[b]? = some o) (hc : ∀ c e f, o ≠ .cells c e f) : (getObj b).run P w = .ok o w := by
  cases o <;> first
    | exact absurd rfl (hc _ _ _)
    | simp [getObj, Sem.run, h]
theorem run_setObj_of {P : Program} {w : World} {b : Nat} {o o' : Obj} (h : w.heap[b]? = some o) (hc : ∀ c e f, o ≠ .cells c e f) : (setObj b o').run P w = .ok () (setBlk w b o') := by
  cases o <;> first
    | exact absurd rfl (hc _ _ _)
    | simp [setObj, Sem.run, h, setBlk]

/-! ### a block changed -/
theorem RR.putObj {μ : Mu} {h : H} {w w' : World} (r : RR μ h w.heap) {b : Nat} {L : Loc} (hb : μ b = some L) (hlive : isLive (h.get b) = true) (hqr : qRow (h.get b) = false) (o' : O)
    (ho : OR μ w'.heap L o')
    (hit : ∀ m ver left cur, o' = .iter (some m) ver left cur → ItsAt μ (h.put b o') w'.heap L m ver left cur)
    (hmap : ∀ c L1 ver left cur, μ c = some L1 → c ≠ b → h.get c = .iter (some b) ver left cur → ItsAt μ h w.heap L1 b ver left cur → ItsAt μ (h.put b o') w'.heap L1 b ver left cur)
    (hsz : w'.heap.size = w.heap.size) (hoth : ∀ c, c ≠ L.blk → w'.heap[c]? = w.heap[c]?) (ht : w'.tape = w.tape) (hos : w'.os = w.os) (hout : w'.output = w.output) :
    Post μ h w μ (h.put b o') w' := by
  refine ⟨⟨?_, ?_, ?_, ?_, ?_, ?_, r.zb, by rw [H.pc_put]; exact r.pc⟩, ?_, ?_, ?_, ?_, ?_, qput hqr, ht, hos, hout⟩
  · intro c L' e; rw [H.next_put]; exact r.dom c L' e
  · intro c L' e; rw [hsz]; exact r.lt c L' e
  · intro c L' e
    rw [H.get_put]
    by_cases hc : c = b
    · subst hc; rw [hb] at e; cases e; rw [if_pos rfl]; exact ho
    · rw [if_neg hc]
      by_cases hl : isLive (h.get c) = true
      · exact OR.congr (hoth _ (r.sep c b L' L e hb hc hl hlive)) _ (r.obj c L' e)
      · cases hgc : h.get c <;> rw [hgc] at hl <;> first | exact trivial | exact absurd rfl hl
  · intro c c' L1 L2 e1 e2 hne l1 l2
    rw [H.get_put] at l1 l2
    refine r.sep c c' L1 L2 e1 e2 hne ?_ ?_
    · by_cases hc : c = b
      · subst hc; exact hlive
      · rwa [if_neg hc] at l1
    · by_cases hc : c' = b
      · subst hc; exact hlive
      · rwa [if_neg hc] at l2
  · intro c L1 m ver left cur e hgc
    rw [H.get_put] at hgc
    by_cases hc : c = b
    · rw [if_pos hc] at hgc; subst hc; rw [hb] at e; cases e; exact hit _ _ _ _ hgc
    · rw [if_neg hc] at hgc
      have hcl : isLive (h.get c) = true := by rw [hgc]; rfl
      by_cases hmb : m = b
      · subst hmb; exact hmap c L1 ver left cur e hc hgc (r.its c L1 _ ver left cur e hgc)
      · intro Lm since seen stepped hm hi ver' es'' hgm
        rw [H.get_put, if_neg hmb] at hgm
        rw [hoth _ (r.sep c b L1 L e hb hc hcl hlive)] at hi
        obtain ⟨h1, h2⟩ := r.its c L1 m ver left cur e hgc Lm since seen stepped hm hi ver' es'' hgm
        refine ⟨h1, fun hv => ?_⟩
        obtain ⟨ents, clk, h3, h4⟩ := h2 hv
        exact ⟨ents, clk, (hoth _ (r.sep m b Lm L hm hb hmb (by rw [hgm]; rfl) hlive)).trans h3, h4⟩
  · intro c hc
    rw [H.next_put] at hc
    have : c ≠ b := fun e => by subst e; have := r.dom c L hb; omega
    rw [H.get_put, if_neg this]; exact r.up c hc
  · intro c _; rfl
  · rw [H.next_put]; omega
  · omega
  · intro c _ hn; exact hoth c (fun e => by rw [hn b L hb e.symm] at hqr; cases hqr)
  · intro c L' e; exact .inl ⟨c, L', e, rfl, .inl rfl⟩

/-- a row that is looked at no more -/
theorem RR.kill {μ : Mu} {h : H} {w : World} (r : RR μ h w.heap) {b : Nat} {L : Loc} (hb : μ b = some L) {n es : Nat} {l : List V} {d : V} (hg : h.get b = .cells n es l d) (hro : isRo d = false) :
    Post μ h w μ (h.put b .dead) w :=
  r.putObj hb (by rw [hg]; rfl) (by rw [hg]; exact hro) .dead trivial (fun _ _ _ _ e => by cases e)
    (fun c L1 ver left cur _ _ _ _ Lm since seen stepped _ _ ver' es' hgm => by rw [H.get_put, if_pos rfl] at hgm; cases hgm)
    rfl (fun _ _ => rfl) rfl rfl rfl

/-! ### keys -/
theorem KR.int {k : IntKind} {n : Int} {v : Value} (h : KR (.int k n) v) : v = .int k n := VR.int h
theorem KR.bool {b : Bool} {v : Value} (h : KR (.bool b) v) : v = .bool b := VR.bool h
theorem KR.str {s : List Nat} {v : Value} (h : KR (.str s) v) : ∃ x : ByteArray, v = .string x ∧ x.data.toList.map UInt8.toNat = s := VR.str h
theorem bytes_inj {x y : ByteArray} (h : x.data.toList.map UInt8.toNat = y.data.toList.map UInt8.toNat) : x = y := by
  have := toNat_inj_list _ _ h
  cases x; cases y; simp at this; rw [this]

theorem eqC_some {x y : V} {b : Bool} (h : eqC x y = some b) :
    (∃ p q, x = .bool p ∧ y = .bool q ∧ b = (p == q)) ∨ (∃ j p q, x = .int j p ∧ y = .int j q ∧ b = (p == q)) ∨ (∃ p q, x = .str p ∧ y = .str q ∧ b = eqL p q) := by
  cases x <;> cases y <;> simp only [eqC] at h <;> try (cases h; done)
  case bool.bool p q => cases h; exact .inl ⟨p, q, rfl, rfl, rfl⟩
  case int.int j p k q =>
    by_cases e : j = k
    · subst e; simp at h; exact .inr (.inl ⟨j, p, q, rfl, rfl, h.symm⟩)
    · simp [e] at h
  case str.str p q => cases h; exact .inr (.inr ⟨p, q, rfl, rfl, rfl⟩)
theorem eqC_true {x y : V} (h : eqC x y = some true) : x = y := by
  rcases eqC_some h with ⟨p, q, rfl, rfl, hb⟩ | ⟨j, p, q, rfl, rfl, hb⟩ | ⟨p, q, rfl, rfl, hb⟩
  · have : p = q := by simpa using hb.symm
    rw [this]
  · have : p = q := by simpa using hb.symm
    rw [this]
  · rw [eqL_eq] at hb; have : p = q := by simpa using hb.symm
    rw [this]
theorem eqC_symm {x y : V} {b : Bool} (h : eqC x y = some b) : eqC y x = some b := by
  rcases eqC_some h with ⟨p, q, rfl, rfl, hb⟩ | ⟨j, p, q, rfl, rfl, hb⟩ | ⟨p, q, rfl, rfl, hb⟩
  · simp only [eqC, hb]; rw [Bool.beq_comm]
  · simp only [eqC, hb]; simp [Bool.beq_comm, eq_comm]
  · simp only [eqC, hb, eqL_eq]; simp [eq_comm]
/-- one value is no two keys that are told apart -/
theorem KR_apart {x y : V} {v : Value} (hx : KR x v) (hy : KR y v) : eqC x y ≠ some false := by
  intro h
  rcases eqC_some h with ⟨p, q, rfl, rfl, hb⟩ | ⟨j, p, q, rfl, rfl, hb⟩ | ⟨p, q, rfl, rfl, hb⟩
  · rw [hx.bool] at hy; cases hy.bool; simp at hb
  · rw [hx.int] at hy; cases hy.int; simp at hb
  · obtain ⟨a, rfl, h1⟩ := hx.str; obtain ⟨c, h2, h3⟩ := hy.str; cases h2
    rw [← h1, ← h3, eqL_eq] at hb; simp at hb
theorem KR_same {k : V} {v u : Value} (hk : KR k v) (hu : KR k u) (hp : (∃ b, k = .bool b) ∨ (∃ j n, k = .int j n) ∨ ∃ s, k = .str s) : v = u := by
  rcases hp with ⟨b, rfl⟩ | ⟨j, n, rfl⟩ | ⟨s, rfl⟩
  · rw [hk.bool, hu.bool]
  · rw [hk.int, hu.int]
  · obtain ⟨a, rfl, h1⟩ := hk.str; obtain ⟨c, rfl, h2⟩ := hu.str
    rw [bytes_inj (h1.trans h2.symm)]

section
variable {P : Tb} {μ : Mu} {h : H} {w : World}

theorem keyOk_spec {kt : TypeId} {k : V} (hk : keyOk P kt k = true) :
    (∃ j n, P.underlying kt = some (.int j) ∧ k = .int j n) ∨ (∃ s, P.underlying kt = some .string ∧ k = .str s) ∨ (∃ b, P.underlying kt = some .bool ∧ k = .bool b) := by
  unfold keyOk at hk
  cases hu : P.underlying kt with
  | none => simp [hu] at hk
  | some d =>
    cases d <;> cases k <;> simp only [hu] at hk <;> try (cases hk; done)
    · exact .inr (.inr ⟨_, rfl, rfl⟩)
    · rename_i j j' n
      have : j = j' := by simpa using hk
      subst this
      exact .inl ⟨j, n, rfl, rfl⟩
    · exact .inr (.inl ⟨_, rfl, rfl⟩)
theorem keyOk_kr {kt : TypeId} {k : V} {v : Value} (hk : keyOk P kt k = true) (hv : VR μ k v) : KR k v := by
  rcases keyOk_spec hk with ⟨j, n, _, rfl⟩ | ⟨s, _, rfl⟩ | ⟨b, _, rfl⟩
  · rw [hv.int]; simp [KR, VR]
  · obtain ⟨x, rfl, hx⟩ := hv.str; simp only [KR, VR]; exact ⟨x, rfl, hx⟩
  · rw [hv.bool]; simp [KR, VR]
theorem keyOk_plain {kt : TypeId} {k : V} (hk : keyOk P kt k = true) : (∃ b, k = .bool b) ∨ (∃ j n, k = .int j n) ∨ ∃ s, k = .str s := by
  rcases keyOk_spec hk with ⟨j, n, _, rfl⟩ | ⟨s, _, rfl⟩ | ⟨b, _, rfl⟩
  · exact .inr (.inl ⟨_, _, rfl⟩)
  · exact .inr (.inr ⟨_, rfl⟩)
  · exact .inl ⟨_, rfl⟩
theorem byteArray_beq (a b : ByteArray) : (a == b) = decide (a = b) := by
  cases a with
  | mk x => cases b with
    | mk y =>
      show (x == y) = _
      by_cases h : x = y
      · subst h; simp
      · simp [h]
theorem now_of {kt : TypeId} {k p : V} {v u : Value} {d : TypeDesc} (hu : P.underlying kt = some d) (hk : keyOk P kt k = true) (hv : KR k v) (hp : KR p u) {b : Bool} (he : keyEq k p = some b) :
    Instr.sameNow d v u = some b := by
  rcases keyOk_spec hk with ⟨j, n, h1, rfl⟩ | ⟨s, h1, rfl⟩ | ⟨c, h1, rfl⟩ <;> rw [h1] at hu <;> cases hu
  · rcases eqC_some he with ⟨_, _, e, _⟩ | ⟨j', p', q, e, rfl, hb⟩ | ⟨_, _, e, _⟩ <;> cases e
    rw [hv.int, hp.int]; simp [Instr.sameNow, hb]
  · rcases eqC_some he with ⟨_, _, e, _⟩ | ⟨_, _, _, e, _⟩ | ⟨p', q, e, rfl, hb⟩ <;> cases e
    obtain ⟨a, rfl, h2⟩ := hv.str; obtain ⟨c, rfl, h3⟩ := hp.str
    simp only [Instr.sameNow, Option.some.injEq]
    rw [hb, ← h2, ← h3, eqL_eq, byteArray_beq, decide_eq_decide]
    exact ⟨fun e => by rw [e], fun e => bytes_inj e⟩
  · rcases eqC_some he with ⟨p', q, e, rfl, hb⟩ | ⟨_, _, _, e, _⟩ | ⟨_, _, e, _⟩ <;> cases e
    rw [hv.bool, hp.bool]; simp [Instr.sameNow, hb]

/-! ### looking for a key -/
theorem findNow_found {d : TypeDesc} {v : Value} {e : MapEntry} : ∀ (L : List MapEntry) (i : Nat), e ∈ L → Instr.sameNow d v e.key = some true →
    (∀ e' ∈ L, e' ≠ e → Instr.sameNow d v e'.key = some false) → ∃ j, Instr.findNow d v L i = some (some (i + j, e.val)) ∧ L[j]? = some e
  | [], i, hm, _, _ => by simp at hm
  | x :: L, i, hm, ht, hf => by
    by_cases hx : x = e
    · subst hx
      exact ⟨0, by simp [Instr.findNow, ht], rfl⟩
    · have hm' : e ∈ L := by rcases List.mem_cons.1 hm with h | h; exact absurd h.symm hx; exact h
      obtain ⟨j, h1, h2⟩ := findNow_found L (i + 1) hm' ht fun e' he' => hf e' (List.mem_cons_of_mem _ he')
      refine ⟨j + 1, ?_, by simpa using h2⟩
      simp only [Instr.findNow, hf x (by simp) hx, h1]
      congr 3; omega
theorem findNow_none {d : TypeDesc} {v : Value} : ∀ (L : List MapEntry) (i : Nat), (∀ e ∈ L, Instr.sameNow d v e.key = some false) → Instr.findNow d v L i = some none
  | [], i, _ => rfl
  | x :: L, i, hf => by simp only [Instr.findNow, hf x (by simp)]; exact findNow_none L (i + 1) fun e he => hf e (List.mem_cons_of_mem _ he)

theorem EntRs.mem {μ : Mu} : ∀ {es : List (V × V)} {l : List MapEntry}, EntRs μ es l → ∀ e ∈ l, ∃ p ∈ es, KR p.1 e.key ∧ VR μ p.2 e.val
  | [], l, h, e, he => by simp only [EntRs] at h; subst h; simp at he
  | p :: es, l, h, e, he => by
    obtain ⟨e0, r, rfl, h1, h2, h3⟩ := h
    rcases List.mem_cons.1 he with rfl | he
    · exact ⟨p, by simp, h1, h2⟩
    · obtain ⟨q, hq, h4, h5⟩ := EntRs.mem h3 e he
      exact ⟨q, List.mem_cons_of_mem _ hq, h4, h5⟩

theorem findK_found {k : V} : ∀ {es : List (V × V)} {l : List MapEntry} {x : V}, findK k es = some (some x) → Apart es → EntRs μ es l →
    ∃ e ∈ l, KR k e.key ∧ VR μ x e.val ∧ keyEq k k = some true ∧ ∀ e' ∈ l, e' ≠ e → ∃ q, KR q e'.key ∧ keyEq k q = some false
  | [], l, x, hf, _, _ => by cases hf
  | p :: es, l, x, hf, ha, hr => by
    obtain ⟨e0, r, rfl, h1, h2, h3⟩ := hr
    unfold findK at hf
    cases hk : keyEq k p.1 with
    | none => simp [hk] at hf
    | some b =>
      cases b with
      | true =>
        simp only [hk, Option.some.injEq] at hf
        subst hf
        have hkp := eqC_true hk
        refine ⟨e0, by simp, by rw [hkp]; exact h1, h2, by rw [hkp] at hk ⊢; exact hk, fun e' he' hne => ?_⟩
        rcases List.mem_cons.1 he' with rfl | he'
        · exact absurd rfl hne
        · obtain ⟨q, hq, h4, h5⟩ := EntRs.mem h3 e' he'
          exact ⟨q.1, h4, by rw [hkp]; exact (ha.1 q hq).1⟩
      | false =>
        simp only [hk] at hf
        obtain ⟨e, he, h4, h5, h6, h7⟩ := findK_found hf ha.2 h3
        refine ⟨e, List.mem_cons_of_mem _ he, h4, h5, h6, fun e' he' hne => ?_⟩
        rcases List.mem_cons.1 he' with rfl | he'
        · exact ⟨p.1, h1, hk⟩
        · exact h7 e' he' hne
theorem findK_none {k : V} : ∀ {es : List (V × V)} {l : List MapEntry}, findK k es = some none → EntRs μ es l → ∀ e ∈ l, ∃ q, KR q e.key ∧ keyEq k q = some false
  | [], l, _, hr, e, he => by simp only [EntRs] at hr; subst hr; simp at he
  | p :: es, l, hf, hr, e, he => by
    obtain ⟨e0, r, rfl, h1, h2, h3⟩ := hr
    unfold findK at hf
    cases hk : keyEq k p.1 with
    | none => simp [hk] at hf
    | some b =>
      cases b with
      | true => simp [hk] at hf
      | false =>
        simp only [hk] at hf
        rcases List.mem_cons.1 he with rfl | he
        · exact ⟨p.1, h1, hk⟩
        · exact findK_none hf h3 e he
theorem findK_none' {k : V} : ∀ {es : List (V × V)}, findK k es = some none → ∀ p ∈ es, keyEq k p.1 = some false
  | [], _, p, hp => by simp at hp
  | q :: es, hf, p, hp => by
    unfold findK at hf
    cases hk : keyEq k q.1 with
    | none => simp [hk] at hf
    | some b =>
      cases b with
      | true => simp [hk] at hf
      | false =>
        simp only [hk] at hf
        rcases List.mem_cons.1 hp with rfl | hp
        · exact hk
        · exact findK_none' hf p hp

theorem mapT_und {t k e : TypeId} (hm : mapT P t = some (k, e)) : P.underlying t = some (.map k e) := by
  unfold mapT at hm
  cases hu : P.underlying t with
  | none => simp [hu] at hm
  | some d => cases d <;> simp [hu] at hm; rw [hm.1, hm.2]

variable (ok : P.Ok)
include ok
theorem checkKey_ok {kt : TypeId} {k : V} {v : Value} (hk : keyOk P kt k = true) (hv : KR k v) (e : Bool) (n : Nat) : (Instr.checkKey e (n + 1) kt v).run P.P w = .ok () w := by
  rcases keyOk_spec hk with ⟨j, m, h1, rfl⟩ | ⟨s, h1, rfl⟩ | ⟨c, h1, rfl⟩
  · rw [hv.int]; simp [Instr.checkKey, run_und ok w h1]
  · obtain ⟨x, rfl, _⟩ := hv.str; simp [Instr.checkKey, run_und ok w h1]
  · rw [hv.bool]; simp [Instr.checkKey, run_und ok w h1]
theorem checkKey_ok' {kt : TypeId} {k : V} {v : Value} (hk : keyOk P kt k = true) (hv : KR k v) (e : Bool) : (Instr.checkKey e 10000 kt v).run P.P w = .ok () w :=
  checkKey_ok ok hk hv e 9999

theorem findKey_found {kt : TypeId} {k : V} {v : Value} {es : List (V × V)} {ents : Array MapEntry} {clk : Nat} (hk : keyOk P kt k = true) (hv : KR k v) (hm : MapR μ es ents clk) {x : V} (hf : findK k es = some (some x)) :
    ∃ i e, (Instr.findKey kt v ents.toList).run P.P w = .ok (some (i, e.val)) w ∧ ents[i]? = some e ∧ VR μ x e.val ∧ KR k e.key ∧ e ∈ ents.toList ∧ ∀ e' ∈ ents.toList, e' ≠ e → ∃ q, KR q e'.key ∧ keyEq k q = some false := by
  obtain ⟨l, hp, hr⟩ := hm.rel
  obtain ⟨e, he, h1, h2, h3, h4⟩ := findK_found hf hm.apart hr
  obtain ⟨d, hu⟩ : ∃ d, P.underlying kt = some d := by
    rcases keyOk_spec hk with ⟨j, m, h1', rfl⟩ | ⟨s, h1', rfl⟩ | ⟨c, h1', rfl⟩ <;> exact ⟨_, h1'⟩
  have h4' : ∀ e' ∈ ents.toList, e' ≠ e → ∃ q, KR q e'.key ∧ keyEq k q = some false := fun e' he' => h4 e' (hp.mem_iff.2 he')
  obtain ⟨j, h5, h6⟩ := findNow_found (d := d) (v := v) ents.toList 0 (hp.mem_iff.1 he) (now_of hu hk hv h1 h3) fun e' he' hne => by
    obtain ⟨q, h7, h8⟩ := h4' e' he' hne
    exact now_of hu hk hv h7 h8
  refine ⟨j, e, ?_, by simpa using h6, h2, h1, hp.mem_iff.1 he, h4'⟩
  unfold Instr.findKey
  simp only [Sem.run_bind, run_und ok w hu, Result.andThen_ok, h5, Sem.run_pure, Nat.zero_add]
theorem findKey_none {kt : TypeId} {k : V} {v : Value} {es : List (V × V)} {ents : Array MapEntry} {clk : Nat} (hk : keyOk P kt k = true) (hv : KR k v) (hm : MapR μ es ents clk) (hf : findK k es = some none) :
    (Instr.findKey kt v ents.toList).run P.P w = .ok none w := by
  obtain ⟨l, hp, hr⟩ := hm.rel
  obtain ⟨d, hu⟩ : ∃ d, P.underlying kt = some d := by
    rcases keyOk_spec hk with ⟨j, m, h1, rfl⟩ | ⟨s, h1, rfl⟩ | ⟨c, h1, rfl⟩ <;> exact ⟨_, h1⟩
  have := findNow_none (d := d) (v := v) ents.toList 0 fun e he => by
    obtain ⟨q, h7, h8⟩ := findK_none hf hr e (hp.mem_iff.2 he)
    exact now_of hu hk hv h7 h8
  unfold Instr.findKey
  simp only [Sem.run_bind, run_und ok w hu, Result.andThen_ok, this, Sem.run_pure]

/-! ### lookup -/
omit ok in
theorem map?_get {b ver : Nat} {es : List (V × V)} (hm : h.map? b = some (ver, es)) : h.get b = .map ver es := by
  unfold H.map? at hm
  cases hg : h.get b <;> simp [hg] at hm
  rw [hm.1, hm.2]
variable (r : RR μ h w.heap)
include r
theorem opLookup_ok {a : A} {A' : Act} (ha : AR μ a A') (t : TypeId) (x y : Operand) (k : Bool) : SVal P μ h w (Instr.lookup t (A'.eval x) (A'.eval y) k) (opLookup t x y k P a h) := by
  unfold opLookup
  cases hq : mapT P t with
  | none => simp only [hq]; trivial
  | some q =>
    cases he : entriesOf h (a.ev x) with
    | none => simp only [hq, he]; trivial
    | some es =>
      simp only [hq, he]
      cases hk : keyOk P q.1 (a.ev y) with
      | false => trivial
      | true =>
        simp only [cond_true]
        have hxv := ev_vr ha x
        have hkr := keyOk_kr hk (ev_vr ha y)
        have hu := mapT_und hq
        -- the entries
        obtain ⟨ents, clk, hm, hrun⟩ : ∃ (ents : Array MapEntry) (clk : Nat), MapR μ es ents clk ∧
            (Instr.lookup t (A'.eval x) (A'.eval y) k).run P.P w = (do
              Instr.checkKey ents.isEmpty 10000 q.1 (A'.eval y)
              let (v, ok) ← match ← Instr.findKey q.1 (A'.eval y) ents.toList with
                | some (_, v) => pure (v, true)
                | none => pure (← zeroValue q.2, false)
              pure (if k then .tuple #[v, .bool ok] else v) : Sem Value).run P.P w := by
          unfold entriesOf at he
          cases hx : a.ev x <;> simp only [hx] at he <;> try (cases he; done)
          · cases he
            rw [hx] at hxv
            refine ⟨#[], 0, ⟨⟨[], .refl _, rfl⟩, by simp, by simp, trivial⟩, ?_⟩
            rw [hxv.nilm]
            unfold Instr.lookup
            simp only [Sem.run_bind, run_und ok w hu, Result.andThen_ok, Sem.run_pure]
            rfl
          · rename_i b
            rw [hx] at hxv
            obtain ⟨L, hb, hv⟩ := hxv.mp
            cases hmb : h.map? b with
            | none => simp [hmb] at he
            | some z =>
              obtain ⟨ver, es'⟩ := z
              simp only [hmb, Option.some.injEq] at he
              subst he
              have hg := map?_get hmb
              have ho := r.obj b L hb
              rw [hg] at ho
              obtain ⟨ents, clk, h1, h2⟩ := ho
              refine ⟨ents, clk, h2, ?_⟩
              rw [hv]
              unfold Instr.lookup
              simp only [Sem.run_bind, run_und ok w hu, Result.andThen_ok, run_getObj_of h1 (by simp), Sem.run_pure]
              rfl
        have hck := checkKey_ok' (w := w) ok hk hkr ents.isEmpty
        cases hf : findK (a.ev y) es with
        | none => simp only [hf]; trivial
        | some o =>
          cases o with
          | some v =>
            simp only [hf]
            obtain ⟨i, e, h1, h2, h3, _⟩ := findKey_found (w := w) ok hk hkr hm hf
            refine ⟨if k then .tuple #[e.val, .bool true] else e.val, ?_, ?_⟩
            · rw [hrun]; simp only [Sem.run_bind, hck, Result.andThen_ok, h1, Sem.run_pure]
            · cases k
              · exact h3
              · simp only [cond_true, if_true, VR, VRs]
                exact ⟨_, rfl, e.val, _, rfl, h3, _, _, rfl, rfl, rfl⟩
          | none =>
            simp only [hf]
            have h1 := findKey_none (w := w) ok hk hkr hm hf
            cases hz : zeroT P q.2 with
            | none => simp only [hz]; trivial
            | some z =>
              simp only [hz]
              obtain ⟨zv, h4, h5⟩ := zero_of ok w hz
              have hzv : VR μ z zv := h5 ▸ ofVal_vr μ zv
              refine ⟨if k then .tuple #[zv, .bool false] else zv, ?_, ?_⟩
              · rw [hrun]; simp only [Sem.run_bind, hck, Result.andThen_ok, h1, h4, Sem.run_pure]
              · cases k
                · exact hzv
                · simp only [cond_true, if_true, VR, VRs]
                  exact ⟨_, rfl, zv, _, rfl, hzv, _, _, rfl, rfl, rfl⟩
end
end Ae

namespace Ae
open Go

/-! ### a map changed -/
theorem EntRs.length {μ : Mu} : ∀ {es : List (V × V)} {l : List MapEntry}, EntRs μ es l → es.length = l.length
  | [], l, h => by simp only [EntRs] at h; subst h; rfl
  | p :: es, l, h => by obtain ⟨e0, r, rfl, _, _, h3⟩ := h; simp [EntRs.length h3]
theorem EntRs.app {μ : Mu} : ∀ {es es' : List (V × V)} {l l' : List MapEntry}, EntRs μ es l → EntRs μ es' l' → EntRs μ (es ++ es') (l ++ l')
  | [], es', l, l', h, h' => by simp only [EntRs] at h; subst h; exact h'
  | p :: es, es', l, l', h, h' => by obtain ⟨e0, r, rfl, h1, h2, h3⟩ := h; exact ⟨e0, r ++ l', rfl, h1, h2, EntRs.app h3 h'⟩
theorem EntRs.keys {μ : Mu} : ∀ {es : List (V × V)} {l : List MapEntry}, EntRs μ es l → KRs (es.map (·.1)) l
  | [], l, h => by simp only [EntRs] at h; subst h; rfl
  | p :: es, l, h => by obtain ⟨e0, r, rfl, h1, h2, h3⟩ := h; exact ⟨e0, r, rfl, h1, EntRs.keys h3⟩

/-- an entry's value replaced -/
def reval (b : Nat) (v value : Value) (e : MapEntry) : MapEntry := if e.born = b then { e with key := v, val := value } else e
theorem reval_born (b : Nat) (v value : Value) (e : MapEntry) : (reval b v value e).born = e.born := by unfold reval; split <;> rfl
theorem reval_other {b : Nat} {v value : Value} {e : MapEntry} (h : e.born ≠ b) : reval b v value e = e := by unfold reval; rw [if_neg h]
theorem map_reval_other {b : Nat} {v value : Value} : ∀ {l : List MapEntry}, (∀ e ∈ l, e.born ≠ b) → l.map (reval b v value) = l
  | [], _ => rfl
  | e :: l, h => by rw [List.map_cons, reval_other (h e (by simp)), map_reval_other fun e' he' => h e' (List.mem_cons_of_mem _ he')]

theorem setK_app {k x : V} : ∀ {es : List (V × V)}, findK k es = some none → setK k x es = es ++ [(k, x)]
  | [], _ => rfl
  | p :: es, hf => by
    unfold findK at hf
    cases hk : keyEq k p.1 with
    | none => simp [hk] at hf
    | some b =>
      cases b with
      | true => simp [hk] at hf
      | false =>
        simp only [hk] at hf
        simp only [setK, hk, List.cons_append]
        rw [setK_app hf]
theorem setK_keys {k x y : V} : ∀ {es : List (V × V)}, findK k es = some (some y) → (setK k x es).map (·.1) = es.map (·.1)
  | [], hf => by cases hf
  | p :: es, hf => by
    unfold findK at hf
    cases hk : keyEq k p.1 with
    | none => simp [hk] at hf
    | some b =>
      cases b with
      | true => simp only [setK, hk, List.map_cons]; rw [eqC_true hk]
      | false =>
        simp only [hk] at hf
        simp only [setK, hk, List.map_cons]
        rw [setK_keys hf]
def ApartK : List V → Prop
  | [] => True
  | k :: l => (∀ q ∈ l, keyEq k q = some false ∧ keyEq q k = some false) ∧ ApartK l
theorem apart_keys : ∀ (es : List (V × V)), Apart es ↔ ApartK (es.map (·.1))
  | [] => Iff.rfl
  | p :: es => by
    simp only [Apart, ApartK, List.map_cons, List.mem_map]
    rw [apart_keys es]
    constructor
    · intro ⟨h1, h2⟩; exact ⟨fun q ⟨p', hp', e⟩ => e ▸ h1 p' hp', h2⟩
    · intro ⟨h1, h2⟩; exact ⟨fun q hq => h1 q.1 ⟨q, hq, rfl⟩, h2⟩
theorem apart_app {k x : V} : ∀ {es : List (V × V)}, Apart es → (∀ p ∈ es, keyEq k p.1 = some false) → Apart (es ++ [(k, x)])
  | [], _, _ => ⟨by simp, trivial⟩
  | p :: es, h, hk => by
    refine ⟨fun q hq => ?_, apart_app h.2 fun p' hp' => hk p' (List.mem_cons_of_mem _ hp')⟩
    rcases List.mem_append.1 hq with hq | hq
    · exact h.1 q hq
    · have : q = (k, x) := by simpa using hq
      subst this
      exact ⟨eqC_symm (hk p (by simp)), hk p (by simp)⟩

theorem EntRs.set {μ : Mu} {k x' : V} {v value : Value} (hv : VR μ x' value) (hk : KR k v) {e : MapEntry} (hke : KR k e.key) :
    ∀ {es : List (V × V)} {l : List MapEntry} {x : V}, EntRs μ es l → Apart es → (l.map (·.born)).Nodup → e ∈ l → findK k es = some (some x) → EntRs μ (setK k x' es) (l.map (reval e.born v value))
  | [], l, x, hr, _, _, he, _ => by simp only [EntRs] at hr; subst hr; simp at he
  | p :: es, l, x, hr, ha, hn, he, hf => by
    obtain ⟨e0, r, rfl, h1, h2, h3⟩ := hr
    rw [List.map_cons, List.nodup_cons] at hn
    unfold findK at hf
    cases hkp : keyEq k p.1 with
    | none => simp [hkp] at hf
    | some b =>
      cases b with
      | true =>
        have hkp' := eqC_true hkp
        have he0 : e = e0 := by
          rcases List.mem_cons.1 he with h | h
          · exact h
          · obtain ⟨q, hq, h4, _⟩ := EntRs.mem h3 e h
            exact absurd (by rw [hkp']; exact (ha.1 q hq).1) (KR_apart hke h4)
        subst he0
        have hrest : r.map (reval e.born v value) = r := map_reval_other fun e' he' hb => hn.1 (List.mem_map.2 ⟨e', he', hb⟩)
        simp only [setK, hkp, List.map_cons, hrest]
        exact ⟨_, r, rfl, by simp [reval, hk], by simpa [reval] using hv, h3⟩
      | false =>
        simp only [hkp] at hf
        have hne : e ≠ e0 := fun e1 => by subst e1; exact absurd hkp (KR_apart hke h1)
        have he' : e ∈ r := by rcases List.mem_cons.1 he with h | h; exact absurd h hne; exact h
        have hb : e0.born ≠ e.born := fun e1 => hn.1 (e1 ▸ List.mem_map.2 ⟨e, he', rfl⟩)
        simp only [setK, hkp, List.map_cons, reval_other hb]
        exact ⟨e0, _, rfl, h1, h2, EntRs.set hv hk hke h3 ha.2 hn.2 he' hf⟩

theorem modify_reval {ents : Array MapEntry} {i : Nat} {e : MapEntry} (hi : ents[i]? = some e) (hn : (ents.toList.map (·.born)).Nodup) (v value : Value) :
    (ents.modify i fun e => { e with key := v, val := value }).toList = ents.toList.map (reval e.born v value) := by
  have hlt : i < ents.size := (Array.getElem?_eq_some_iff.1 hi).1
  apply List.ext_getElem?
  intro j
  rw [Array.getElem?_toList, Array.getElem?_modify, List.getElem?_map, Array.getElem?_toList]
  by_cases hij : i = j
  · subst hij
    rw [if_pos rfl, hi]; simp [reval]
  · rw [if_neg hij]
    cases hj : ents[j]? with
    | none => rfl
    | some e' =>
      have hne : e'.born ≠ e.born := by
        intro hb
        have hltj : j < ents.size := (Array.getElem?_eq_some_iff.1 hj).1
        have h1 : (ents.toList.map (·.born))[i]? = some e.born := by simp [hi]
        have h2 : (ents.toList.map (·.born))[j]? = some e.born := by simp [hj, hb]
        exact hij ((List.getElem?_inj (by simpa using hlt) hn).1 (h1.trans h2.symm))
      simp [reval_other hne]

theorem MapR.set {μ : Mu} {es : List (V × V)} {ents : Array MapEntry} {clk : Nat} (hm : MapR μ es ents clk) {k x x' : V} {v value : Value} (hk : KR k v) (hv : VR μ x' value) (hf : findK k es = some (some x))
    {i : Nat} {e : MapEntry} (hi : ents[i]? = some e) (he : e ∈ ents.toList) (hke : KR k e.key) :
    MapR μ (setK k x' es) (ents.modify i fun e => { e with key := v, val := value }) clk := by
  obtain ⟨l, hp, hr⟩ := hm.rel
  have hmod := modify_reval hi hm.nodup v value
  have hln : (l.map (·.born)).Nodup := (hp.map _).nodup_iff.2 hm.nodup
  refine ⟨⟨l.map (reval e.born v value), by rw [hmod]; exact hp.map _, EntRs.set hv hk hke hr hm.apart hln (hp.mem_iff.2 he) hf⟩, ?_, ?_, ?_⟩
  · intro e' he'
    rw [hmod] at he'
    obtain ⟨e0, h1, rfl⟩ := List.mem_map.1 he'
    rw [reval_born]; exact hm.born e0 h1
  · rw [hmod, List.map_map]
    have : ((·.born) ∘ reval e.born v value) = (·.born) := funext fun e0 => reval_born _ _ _ e0
    rw [this]; exact hm.nodup
  · rw [apart_keys, setK_keys hf, ← apart_keys]; exact hm.apart
theorem MapR.push {μ : Mu} {es : List (V × V)} {ents : Array MapEntry} {clk : Nat} (hm : MapR μ es ents clk) {k x' : V} {v value : Value} (hk : KR k v) (hv : VR μ x' value) (hf : findK k es = some none) :
    MapR μ (setK k x' es) (ents.push { key := v, val := value, born := clk }) (clk + 1) := by
  obtain ⟨l, hp, hr⟩ := hm.rel
  refine ⟨⟨l ++ [{ key := v, val := value, born := clk }], ?_, ?_⟩, ?_, ?_, ?_⟩
  · rw [Array.toList_push]; exact hp.append_right _
  · rw [setK_app hf]; exact EntRs.app hr ⟨_, [], rfl, hk, hv, rfl⟩
  · intro e' he'
    rw [Array.toList_push] at he'
    rcases List.mem_append.1 he' with h | h
    · have := hm.born e' h; omega
    · have : e' = { key := v, val := value, born := clk } := by simpa using h
      subst this; exact Nat.lt_succ_self _
  · rw [Array.toList_push, List.map_append]
    refine List.nodup_append.2 ⟨hm.nodup, by simp, fun a ha b hb => ?_⟩
    obtain ⟨e', he', rfl⟩ := List.mem_map.1 ha
    have : b = clk := by simpa using hb
    have := hm.born e' he'
    omega
  · rw [setK_app hf]; exact apart_app hm.apart (findK_none' hf)

/-- what an iterator has left, when an entry's value is replaced -/
theorem KRs.reval {b : Nat} {v value : Value} : ∀ {ks : List V} {l : List MapEntry}, KRs ks l → (∀ e ∈ l, e.born = b → e.key = v) → KRs ks (l.map (reval b v value))
  | [], l, h, _ => by simp only [KRs] at h; subst h; rfl
  | k :: ks, l, h, hb => by
    obtain ⟨e0, r, rfl, h1, h2⟩ := h
    refine ⟨_, _, rfl, ?_, KRs.reval h2 fun e he => hb e (List.mem_cons_of_mem _ he)⟩
    unfold Ae.reval
    split
    · rename_i h3; rw [← hb e0 (by simp) h3]; exact h1
    · exact h1
theorem ItR.set {left : List V} {cur : Option V} {ents : Array MapEntry} {seen : Array Nat} (hi : ItR left cur ents seen) (hn : (ents.toList.map (·.born)).Nodup) {i : Nat} {e : MapEntry} (he : ents[i]? = some e) {v value : Value} (hv : e.key = v) :
    ItR left cur (ents.modify i fun e => { e with key := v, val := value }) seen := by
  have hmod := modify_reval he hn v value
  have hkey : ∀ e' ∈ ents.toList, e'.born = e.born → e'.key = v := by
    intro e' he' hb
    have hem : e ∈ ents.toList := by rw [← Array.getElem?_toList] at he; exact List.mem_of_getElem? he
    have : e' = e := by
      obtain ⟨a, ha, h1⟩ := List.getElem_of_mem he'
      obtain ⟨c, hc, h2⟩ := List.getElem_of_mem hem
      have h3 : (ents.toList.map (·.born))[a]? = some e.born := by simp [List.getElem?_eq_getElem ha, h1, hb]
      have h4 : (ents.toList.map (·.born))[c]? = some e.born := by simp [List.getElem?_eq_getElem hc, h2]
      have h5 := (List.getElem?_inj (by simpa using ha) hn).1 (h3.trans h4.symm)
      subst h5; rw [← h1, ← h2]
    rw [this]; exact hv
  refine ⟨?_, ?_⟩
  · obtain ⟨l, hp, hk⟩ := hi.left
    refine ⟨l.map (Ae.reval e.born v value), ?_, KRs.reval hk fun e' he' hb => hkey e' ?_ hb⟩
    · rw [hmod, List.filter_map]
      have : ((fun e => !seen.contains e.born) ∘ Ae.reval e.born v value) = fun e => !seen.contains e.born := funext fun e0 => by simp [reval_born]
      rw [this]; exact hp.map _
    · exact (List.mem_filter.1 (hp.mem_iff.1 he')).1
  · intro k hk
    obtain ⟨e', he', h1, h2⟩ := hi.cur k hk
    refine ⟨Ae.reval e.born v value e', by rw [hmod]; exact List.mem_map.2 ⟨e', he', rfl⟩, by rw [reval_born]; exact h1, ?_⟩
    unfold Ae.reval
    split
    · rename_i h3; rw [← hkey e' he' h3]; exact h2
    · exact h2

section
variable {P : Tb} {μ : Mu} {h : H} {w : World} (ok : P.Ok) (r : RR μ h w.heap)
include ok r
theorem sameBits_refl {k : V} {v : Value} (hp : (∃ b, k = .bool b) ∨ (∃ j n, k = .int j n) ∨ ∃ s, k = .str s) (hk : KR k v) (n : Nat) : Instr.sameBits n v v = true := by
  rcases hp with ⟨b, rfl⟩ | ⟨j, m, rfl⟩ | ⟨s, rfl⟩
  · rw [hk.bool]; cases n <;> simp [Instr.sameBits]
  · rw [hk.int]; cases n <;> simp [Instr.sameBits]
  · obtain ⟨x, rfl, _⟩ := hk.str; cases n <;> simp [Instr.sameBits, byteArray_beq]

theorem opMapUpdate_ok {a : A} {A' : Act} (ha : AR μ a A') (t : TypeId) (x y z : Operand) : SUnit P μ h w (Instr.mapUpdate t (A'.eval x) (A'.eval y) (A'.eval z)) (opMapUpdate t x y z P a h) := by
  unfold opMapUpdate
  cases hq : mapT P t with
  | none => simp only [hq]; trivial
  | some q =>
    simp only [hq]
    cases hk : keyOk P q.1 (a.ev y) with
    | false => trivial
    | true =>
      cases hz : (a.ev z).known with
      | false => trivial
      | true =>
        simp only [Bool.and_self, cond_true]
        cases hu' : amapUpdate h (a.ev x) (a.ev y) (a.ev z) with
        | none => trivial
        | some h' =>
          unfold amapUpdate at hu'
          cases hx : a.ev x <;> simp only [hx] at hu' <;> try (cases hu'; done)
          rename_i b
          have hxv := ev_vr ha x
          rw [hx] at hxv
          obtain ⟨L, hb, hv⟩ := hxv.mp
          cases hmb : h.map? b with
          | none => simp [hmb] at hu'
          | some zz =>
            obtain ⟨ver, es⟩ := zz
            simp only [hmb] at hu'
            have hg := map?_get hmb
            have ho := r.obj b L hb
            rw [hg] at ho
            obtain ⟨ents, clk, h1, hm⟩ := ho
            have hkr := keyOk_kr hk (ev_vr ha y)
            have hck := checkKey_ok' (w := w) ok hk hkr false
            have hu := mapT_und hq
            have hlt : L.blk < w.heap.size := r.lt b L hb
            cases hf : findK (a.ev y) es with
            | none => simp [hf] at hu'
            | some o =>
              cases o with
              | some v0 =>
                simp only [hf, Option.some.injEq] at hu'
                subst hu'
                obtain ⟨i, e, h2, h3, h4, h5, h6, h7⟩ := findKey_found (w := w) ok hk hkr hm hf
                have hsame : e.key = A'.eval y := KR_same h5 hkr (keyOk_plain hk)
                have hmr := hm.set hkr (ev_vr ha z) hf h3 h6 h5
                refine ⟨rfl, setBlk w L.blk (.map (ents.modify i fun e => { e with key := A'.eval y, val := A'.eval z }) clk), μ, ?_, ?_⟩
                · rw [hv]
                  unfold Instr.mapUpdate
                  simp only [Sem.run_bind, run_und ok w hu, Result.andThen_ok, run_getObj_of h1 (by simp), hck, h2]
                  unfold Instr.keyThatStays
                  simp only [h3, Option.map_some, Option.getD_some, hsame, sameBits_refl ok r (keyOk_plain hk) hkr, if_true, Sem.run_bind, Sem.run_pure, Result.andThen_ok]
                  rw [run_setObj_of h1 (by simp)]
                · refine r.putObj hb (by rw [hg]; rfl) (by rw [hg]; rfl) _ ⟨_, _, setBlk_same hlt, hmr⟩ (fun _ _ _ _ e => by cases e) ?_ setBlk_size (fun c hc => setBlk_other hc) rfl rfl rfl
                  intro c L1 ver' left cur hc hcb hgc hold Lm since seen stepped hmu hi ver2 es2 hgm
                  rw [hmu] at hb; cases hb
                  rw [H.get_put, if_pos rfl] at hgm
                  cases hgm
                  have hL1 : L1.blk ≠ L.blk := fun e1 => by rw [e1, setBlk_same hlt] at hi; cases hi
                  rw [setBlk_other hL1] at hi
                  obtain ⟨h8, h9⟩ := hold L since seen stepped hmu hi ver es hg
                  refine ⟨h8, fun hv2 => ?_⟩
                  obtain ⟨ents', clk', h10, h11, h12, h13⟩ := h9 hv2
                  rw [h1] at h10; cases h10
                  exact ⟨_, _, setBlk_same hlt, h11, h12, h13.set hm.nodup h3 hsame⟩
              | none =>
                simp only [hf, Option.some.injEq] at hu'
                subst hu'
                have h2 := findKey_none (w := w) ok hk hkr hm hf
                have hmr := hm.push hkr (ev_vr ha z) hf
                refine ⟨rfl, setBlk w L.blk (.map (ents.push { key := A'.eval y, val := A'.eval z, born := clk }) (clk + 1)), μ, ?_, ?_⟩
                · rw [hv]
                  unfold Instr.mapUpdate
                  simp only [Sem.run_bind, run_und ok w hu, Result.andThen_ok, run_getObj_of h1 (by simp), hck, h2]
                  rw [run_setObj_of h1 (by simp)]
                · refine r.putObj hb (by rw [hg]; rfl) (by rw [hg]; rfl) _ ⟨_, _, setBlk_same hlt, hmr⟩ (fun _ _ _ _ e => by cases e) ?_ setBlk_size (fun c hc => setBlk_other hc) rfl rfl rfl
                  intro c L1 ver' left cur hc hcb hgc hold Lm since seen stepped hmu hi ver2 es2 hgm
                  rw [hmu] at hb; cases hb
                  rw [H.get_put, if_pos rfl] at hgm
                  cases hgm
                  have hL1 : L1.blk ≠ L.blk := fun e1 => by rw [e1, setBlk_same hlt] at hi; cases hi
                  rw [setBlk_other hL1] at hi
                  obtain ⟨h8, _⟩ := hold L since seen stepped hmu hi ver es hg
                  exact ⟨by show ver' ≤ ver + 1; omega, fun hv2 => by exfalso; have : ver' = ver + 1 := hv2; omega⟩
end
end Ae

namespace Ae
open Go

theorem KRs.length : ∀ {ks : List V} {l : List MapEntry}, KRs ks l → ks.length = l.length
  | [], l, h => by simp only [KRs] at h; subst h; rfl
  | k :: ks, l, h => by obtain ⟨e0, r, rfl, _, h2⟩ := h; simp [KRs.length h2]
theorem KRs.split : ∀ {pre : List V} {k : V} {post : List V} {l : List MapEntry}, KRs (pre ++ k :: post) l → ∃ l1 e l2, l = l1 ++ e :: l2 ∧ KRs pre l1 ∧ KR k e.key ∧ KRs post l2
  | [], k, post, l, h => by obtain ⟨e0, r, rfl, h1, h2⟩ := h; exact ⟨[], e0, r, rfl, rfl, h1, h2⟩
  | p :: pre, k, post, l, h => by
    obtain ⟨e0, r, rfl, h1, h2⟩ := h
    obtain ⟨l1, e, l2, rfl, h3, h4, h5⟩ := KRs.split h2
    exact ⟨e0 :: l1, e, l2, rfl, ⟨e0, l1, rfl, h1, h3⟩, h4, h5⟩
theorem KRs.app : ∀ {ks ks' : List V} {l l' : List MapEntry}, KRs ks l → KRs ks' l' → KRs (ks ++ ks') (l ++ l')
  | [], ks', l, l', h, h' => by simp only [KRs] at h; subst h; exact h'
  | p :: ks, ks', l, l', h, h' => by obtain ⟨e0, r, rfl, h1, h3⟩ := h; exact ⟨e0, r ++ l', rfl, h1, KRs.app h3 h'⟩
theorem KRs.at : ∀ {ks : List V} {l1 : List MapEntry} {e : MapEntry} {l2 : List MapEntry}, KRs ks (l1 ++ e :: l2) → ∃ pre k post, ks = pre ++ k :: post ∧ KRs pre l1 ∧ KR k e.key ∧ KRs post l2
  | [], l1, e, l2, h => by simp [KRs] at h
  | k :: ks, [], e, l2, h => by obtain ⟨e0, r, h0, h1, h2⟩ := h; cases h0; exact ⟨[], k, ks, rfl, rfl, h1, h2⟩
  | k :: ks, e1 :: l1, e, l2, h => by
    obtain ⟨e0, r, h0, h1, h2⟩ := h
    cases h0
    obtain ⟨pre, k', post, rfl, h3, h4, h5⟩ := KRs.at h2
    exact ⟨k :: pre, k', post, rfl, ⟨_, _, rfl, h1, h3⟩, h4, h5⟩

theorem nextKeys_mem : ∀ (l pre : List V) (k : V) (post pre2 : List V), l = pre2 ++ k :: post → (k, pre ++ pre2 ++ post) ∈ nextKeys pre l
  | [], pre, k, post, pre2, h => by simp at h
  | x :: l, pre, k, post, pre2, h => by
    cases pre2 with
    | nil => simp at h; obtain ⟨rfl, rfl⟩ := h; simp [nextKeys]
    | cons y pre2 =>
      simp at h; obtain ⟨rfl, rfl⟩ := h
      unfold nextKeys
      refine List.mem_cons_of_mem _ ?_
      have := nextKeys_mem (pre2 ++ k :: post) (pre ++ [x]) k post pre2 rfl
      simpa using this
theorem altsOf_mem {h : H} {b : Nat} {m : Option Nat} {ver : Nat} {es : List (V × V)} : ∀ {l : List (V × List V)} {q : V × List V}, q ∈ l →
    (V.tup [.bool true, q.1, match findK q.1 es with | some (some v) => v | _ => .any], h.put b (.iter m ver q.2 (some q.1))) ∈ altsOf h b m ver es l
  | [], q, hq => by simp at hq
  | x :: l, q, hq => by
    unfold altsOf
    rcases List.mem_cons.1 hq with rfl | hq
    · exact List.mem_cons_self
    · exact List.mem_cons_of_mem _ (altsOf_mem hq)

/-- handing out one entry -/
theorem ItR.next {left : List V} {cur : Option V} {ents : Array MapEntry} {seen : Array Nat} (hi : ItR left cur ents seen) (hn : (ents.toList.map (·.born)).Nodup) {e : MapEntry}
    (he : e ∈ ents.toList.filter fun e => !seen.contains e.born) : ∃ pre k post, left = pre ++ k :: post ∧ KR k e.key ∧ ItR (pre ++ post) (some k) ents (seen.push e.born) := by
  obtain ⟨l, hp, hk⟩ := hi.left
  have hel := hp.mem_iff.2 he
  obtain ⟨l1, l2, rfl⟩ := List.append_of_mem hel
  obtain ⟨pre, k, post, rfl, h1, h2, h3⟩ := hk.at
  refine ⟨pre, k, post, rfl, h2, ⟨⟨l1 ++ l2, ?_, h1.app h3⟩, fun k' hk' => ?_⟩⟩
  · have hfn : ((ents.toList.filter fun e => !seen.contains e.born).map (·.born)).Nodup := hn.sublist ((List.filter_sublist).map _)
    have hln : ((l1 ++ e :: l2).map (·.born)).Nodup := (hp.map _).nodup_iff.2 hfn
    have h4 := hp.filter fun x => x.born != e.born
    have h5 : (l1 ++ e :: l2).filter (fun x => x.born != e.born) = l1 ++ l2 := by
      rw [List.map_append, List.map_cons] at hln
      have h6 := List.nodup_append.1 hln
      have h7 := List.nodup_cons.1 h6.2.1
      rw [List.filter_append, List.filter_cons]
      have h8 : l1.filter (fun x => x.born != e.born) = l1 := List.filter_eq_self.2 fun x hx => by
        have := h6.2.2 x.born (List.mem_map.2 ⟨x, hx, rfl⟩) e.born (by simp)
        simpa using this
      have h9 : l2.filter (fun x => x.born != e.born) = l2 := List.filter_eq_self.2 fun x hx => by
        have : x.born ≠ e.born := fun h0 => h7.1 (h0 ▸ List.mem_map.2 ⟨x, hx, rfl⟩)
        simpa using this
      simp [h8, h9]
    rw [h5, List.filter_filter] at h4
    refine h4.trans (List.Perm.of_eq ?_)
    congr 1
    funext x
    simp only [Array.contains_push, Bool.not_or]
    rw [Bool.and_comm]
    congr 1
  · cases hk'
    exact ⟨e, (List.mem_filter.1 he).1, by simp, h2⟩

section
variable {P : Tb} {μ : Mu} {h : H} {w : World} (ok : P.Ok) (r : RR μ h w.heap)

include r in
theorem anextS_ok {b : Nat} {L : Loc} (hb : μ b = some L) (ty : TypeId) : SVal P μ h w (Instr.next (.pointer (some ⟨L.blk, 0, none⟩)) true ty) (anextS h b) := by
  unfold anextS
  have ho := r.obj b L hb
  cases hg : h.get b <;> simp only [hg] <;> try trivial
  rename_i s pos
  rw [hg] at ho
  obtain ⟨hbase, x, h1, h2⟩ := ho
  have hlt : L.blk < w.heap.size := r.lt b L hb
  have hlen := bytes_len x h2
  cases hs : s[pos]? with
  | none =>
    simp only [hs]
    have : ¬ pos < x.size := by
      intro hlt2
      rw [List.getElem?_eq_getElem (by omega)] at hs; cases hs
    refine ⟨.tuple #[.bool false], w, μ, ?_, Post.refl r, by simp [VR, VRs]⟩
    unfold Instr.next
    simp only [Sem.run_bind, run_getObj_of h1 (by simp), Result.andThen_ok, this, if_false, Sem.run_pure]
  | some c =>
    simp only [hs]
    have hpos : pos < x.size := by
      have := (List.getElem?_eq_some_iff.1 hs).1; omega
    cases hc : Nat.blt c 128 with
    | false => trivial
    | true =>
      have hc' : c < 128 := Nat.le_of_ble_eq_true hc
      have hxc : (x[pos]'hpos).toNat = c := by
        rw [← h2, List.getElem?_map] at hs
        have : x.data.toList[pos]? = some (x[pos]'hpos) := by
          rw [Array.getElem?_toList, Array.getElem?_eq_getElem (show pos < x.data.size from hpos)]; rfl
        rw [this] at hs; simpa using hs
      have hdec : Utf8.decode x pos = (c, 1) := by
        unfold Utf8.decode
        have := get_at x pos hpos
        simp only [this, hxc]
        rw [if_pos hc']
      refine ⟨.tuple #[.bool true, goInt pos, .int .i32 c], setBlk w L.blk (.stringIter x (pos + 1)), μ, ?_, ?_, by simp [VR, VRs, goInt]⟩
      · unfold Instr.next
        simp only [Sem.run_bind, run_getObj_of h1 (by simp), Result.andThen_ok, hpos, if_true, hdec]
        rw [run_setObj_of h1 (by simp)]
        rfl
      · refine r.putObj hb (by rw [hg]; rfl) (by rw [hg]; rfl) _ ⟨hbase, x, setBlk_same hlt, h2⟩ (fun _ _ _ _ e => by cases e) ?_ setBlk_size (fun c hc => setBlk_other hc) rfl rfl rfl
        intro c' L1 ver left cur hc1 hcb hgc hold Lm since seen stepped hmu hi ver2 es2 hgm
        rw [H.get_put, if_pos rfl] at hgm; cases hgm

/-- the candidates: what is left, if anything is -/
theorem choose_mapNext (P : Program) (w : World) (n : Nat) (hn : 0 < n) : ∃ j w1, j < n ∧ (choose (.mapNext n)).run P w = .ok j w1 ∧ (w1 = w ∨ w1 = w.drew) ∧ (n ≤ 1 → w1 = w) := by
  by_cases hf : n ≤ 1
  · exact ⟨0, w, hn, by rw [run_choose]; simp [Question.forced, hf], .inl rfl, fun _ => rfl⟩
  · refine ⟨w.tape w.drawn (.mapNext n) % n, w.drew, Nat.mod_lt _ hn, ?_, .inr rfl, fun h => absurd h hf⟩
    rw [run_choose]
    simp only [Question.forced, decide_eq_true_eq, hf, if_false, Question.cut]; rfl

include r in
theorem anextM_ok {b : Nat} {L : Loc} (hb : μ b = some L) (ty : TypeId) : SVal P μ h w (Instr.next (.pointer (some ⟨L.blk, 0, none⟩)) false ty) (anextM h b) := by
  unfold anextM
  have ho := r.obj b L hb
  cases hg : h.get b with
  | iter m ver left cur => ?_
  | _ => trivial
  rw [hg] at ho
  cases m with
  | none =>
    obtain ⟨hbase, since, seen, stepped, h1⟩ := ho
    refine ⟨.tuple #[.bool false], w, μ, ?_, Post.refl r, by simp [VR, VRs]⟩
    unfold Instr.next
    simp only [Sem.run_bind, run_getObj_of h1 (by simp), Result.andThen_ok, Sem.run_pure]
  | some m =>
    obtain ⟨hbase, Lm, hm, since, seen, stepped, h1⟩ := ho
    simp only
    cases hmb : h.map? m with
    | none => simp only [hmb]; trivial
    | some q =>
      obtain ⟨ver', es⟩ := q
      simp only [hmb]
      cases hver : Nat.beq ver ver' with
      | false => trivial
      | true =>
        have hv' := Nat.eq_of_beq_eq_true hver
        subst hv'
        simp only [cond_true]
        have hgm := map?_get hmb
        obtain ⟨_, hits⟩ := r.its b L m ver left cur hb hg Lm since seen stepped hm h1 ver es hgm
        obtain ⟨ents, clk, h2, hsc, hst, hit⟩ := hits rfl
        have hst' : since = stepped := hsc.trans hst.symm
        subst hst'
        subst hsc
        have hom := r.obj m Lm hm
        rw [hgm] at hom
        obtain ⟨ents', clk', h3, hmr⟩ := hom
        rw [h2] at h3; cases h3
        have hlt : L.blk < w.heap.size := r.lt b L hb
        have hne : Lm.blk ≠ L.blk := fun e => by rw [e, h1] at h2; cases h2
        obtain ⟨lst, hperm, hkrs⟩ := hit.left
        have hlen : left.length = (ents.toList.filter fun e => !seen.contains e.born).length := by rw [hkrs.length, hperm.length_eq]
        -- the test ahead
        have htest : (!seen.isEmpty && !ents.isEmpty && ents.all (fun x => decide (x.born ≥ since))) = false := by
          cases he : ents.isEmpty with
          | true => simp
          | false =>
            have h0 : 0 < ents.size := by
              rcases Nat.eq_zero_or_pos ents.size with h0 | h0
              · simp [Array.isEmpty, h0] at he
              · exact h0
            have hb0 := hmr.born ents[0] (by simp)
            have : ents.all (fun x => decide (x.born ≥ since)) = false := by
              rw [Bool.eq_false_iff]
              intro hall
              rw [Array.all_eq_true_iff_forall_mem] at hall
              have := hall _ (Array.getElem_mem h0)
              simp at this; omega
            simp [this]
        obtain ⟨F, hF⟩ : ∃ F : Array MapEntry, F = ents.filter fun e => !seen.contains e.born := ⟨_, rfl⟩
        have hFl : F.toList = ents.toList.filter fun e => !seen.contains e.born := by rw [hF]; simp
        have hFb : ∀ x ∈ F, x.born < since := fun x hx => hmr.born x (by
          have : x ∈ F.toList := by simpa using hx
          rw [hFl] at this
          exact (List.mem_filter.1 this).1)
        have e1 : F.filter (fun x => decide (x.born < since)) = F := Array.filter_eq_self.2 (fun x hx => by simpa using hFb x hx)
        have e2 : F.filter (fun x => decide (x.born ≥ since)) = #[] := by
          rw [Array.filter_eq_empty_iff]
          intro x hx
          have := hFb x hx
          simp; omega
        by_cases h0 : F.size = 0
        · -- nothing is left
          have hF0 : F = #[] := Array.eq_empty_of_size_eq_zero h0
          have hl0 : left = [] := by
            apply List.eq_nil_of_length_eq_zero
            rw [hlen, ← hFl, hF0]; rfl
          subst hl0
          refine ⟨.tuple #[.bool false], w, μ, ?_, Post.refl r, by simp [VR, VRs]⟩
          unfold Instr.next
          simp only [Sem.run_bind, run_getObj_of h1 (by simp), Result.andThen_ok, run_getObj_of h2 (by simp), htest, Bool.false_eq_true, if_false]
          simp only [← hF, hF0]
          simp [choose, Sem.run, Question.forced]
        · have hne' : F.isEmpty = false := by simp [Array.isEmpty, h0]
          obtain ⟨j, w1, hj, hch, hw1, hw2⟩ := choose_mapNext P.P w F.size (by omega)
          obtain ⟨e, he⟩ : ∃ e, F[j]? = some e := ⟨F[j], Array.getElem?_eq_getElem hj⟩
          have hemem : e ∈ ents.toList.filter fun e => !seen.contains e.born := by
            rw [← hFl]; rw [← Array.getElem?_toList] at he; exact List.mem_of_getElem? he
          obtain ⟨pre, k, post, hleft, hke, hitn⟩ := hit.next hmr.nodup hemem
          have hh1 : w1.heap = w.heap := by rcases hw1 with rfl | rfl <;> rfl
          have h1' : w1.heap[L.blk]? = some (.mapIter (some Lm.blk) since seen since) := by rw [hh1]; exact h1
          have hrun : (Instr.next (.pointer (some ⟨L.blk, 0, none⟩)) false ty).run P.P w = .ok (.tuple #[.bool true, e.key, e.val]) (setBlk w1 L.blk (.mapIter (some Lm.blk) since (seen.push e.born) since)) := by
            unfold Instr.next
            simp only [Sem.run_bind, run_getObj_of h1 (by simp), Result.andThen_ok, run_getObj_of h2 (by simp), htest, Bool.false_eq_true, if_false]
            simp only [← hF, e1, e2, hne', Bool.false_eq_true, if_false, Array.empty_append, Array.append_empty, Array.size_map, hch, Result.andThen_ok, Array.getElem?_map, he, Option.map_some,
              Sem.run_bind, run_setObj_of h1' (by simp), Sem.run_pure]
          -- the entry's value
          have hval : VR μ (match findK k es with | some (some v) => v | _ => .any) e.val := by
            cases hf : findK k es with
            | none => simp [VR]
            | some o =>
              cases o with
              | none => simp [VR]
              | some v =>
                simp only
                obtain ⟨l', hp', hr'⟩ := hmr.rel
                obtain ⟨e', he', h4, h5, h6, h7⟩ := findK_found hf hmr.apart hr'
                have hemem' : e ∈ l' := hp'.mem_iff.2 (List.mem_filter.1 hemem).1
                by_cases hee : e = e'
                · rw [hee]; exact h5
                · obtain ⟨q, h8, h9⟩ := h7 e hemem' hee
                  exact absurd h9 (KR_apart hke h8)
          have hpd : Post μ h w μ h w1 := by rcases hw1 with rfl | rfl; exact Post.refl r; exact Post.drew r
          have hpost : Post μ h w μ (h.put b (.iter (some m) ver (pre ++ post) (some k))) (setBlk w1 L.blk (.mapIter (some Lm.blk) since (seen.push e.born) since)) := by
            refine hpd.trans ?_
            have r1 := hpd.rr
            have hlt1 : L.blk < w1.heap.size := by rw [hh1]; exact hlt
            refine r1.putObj hb (by rw [hg]; rfl) (by rw [hg]; rfl) _ ⟨hbase, Lm, hm, since, seen.push e.born, since, setBlk_same hlt1⟩ ?_ ?_ setBlk_size (fun c hc => setBlk_other hc) rfl rfl rfl
            · intro m' ver2 left2 cur2 heq Lm2 since2 seen2 stepped2 hm2 hi2 ver3 es3 hgm2
              cases heq
              rw [hm] at hm2; cases hm2
              rw [setBlk_same hlt1] at hi2
              cases hi2
              rw [H.get_put, if_neg (fun e0 => by subst e0; rw [hgm] at hg; cases hg), hgm] at hgm2
              cases hgm2
              exact ⟨Nat.le_refl _, fun _ => ⟨ents, _, by rw [setBlk_other hne, hh1]; exact h2, rfl, rfl, hitn⟩⟩
            · intro c' L1 ver2 left2 cur2 hc1 hcb hgc hold Lm2 since2 seen2 stepped2 hmu hi2 ver3 es2 hgm2
              rw [H.get_put, if_pos rfl] at hgm2; cases hgm2
          have hvr : VR μ (.tup [.bool true, k, match findK k es with | some (some v) => v | _ => .any]) (.tuple #[.bool true, e.key, e.val]) := by
            simp only [VR, VRs]
            exact ⟨_, rfl, _, _, rfl, rfl, e.key, _, rfl, KR.vr hke μ, e.val, [], rfl, hval, rfl⟩
          have hl1 : left.length = F.size := by rw [hlen, ← hFl]; simp
          match left, hleft, hl1 with
          | [], hleft, _ => simp at hleft
          | [k0], hleft, _ =>
            have : pre = [] ∧ k = k0 ∧ post = [] := by
              cases pre with
              | nil => simp at hleft; exact ⟨rfl, hleft.1.symm, hleft.2⟩
              | cons => simp at hleft
            obtain ⟨rfl, rfl, rfl⟩ := this
            exact ⟨_, _, μ, hrun, hpost, hvr⟩
          | k0 :: k1 :: rest, hleft, _ =>
            refine ⟨(.tup [.bool true, k, match findK k es with | some (some v) => v | _ => .any], h.put b (.iter (some m) ver (pre ++ post) (some k))), ?_, _, _, μ, hrun, hpost, hvr⟩
            have := nextKeys_mem (k0 :: k1 :: rest) [] k post pre hleft
            simp only [List.nil_append] at this
            exact altsOf_mem (q := (k, pre ++ post)) this

include r in
theorem iter_base {b : Nat} {L : Loc} (hb : μ b = some L) (hg : (∃ m v l c, h.get b = .iter m v l c) ∨ ∃ s p, h.get b = .siter s p) : L.base = 0 := by
  have ho := r.obj b L hb
  rcases hg with ⟨m, v, l, c, hg⟩ | ⟨s, p, hg⟩ <;> rw [hg] at ho
  · cases m with
    | none => exact ho.1
    | some m => exact ho.1
  · exact ho.1
include r in
theorem opNext_ok {a : A} {A' : Act} (ha : AR μ a A') (it : Operand) (str : Bool) (ty : TypeId) : SVal P μ h w (Instr.next (A'.eval it) str ty) (opNext it str P a h) := by
  unfold opNext
  cases hp : (a.ev it).ptr? with
  | none => simp only [hp]; trivial
  | some p =>
    simp only [hp]
    have hx := ev_vr ha it
    rw [V.ptr?_some hp] at hx
    obtain ⟨L, hb, hv⟩ := hx.ptr
    cases hz : Nat.beq p.2 0 with
    | false => trivial
    | true =>
      have h0 := Nat.eq_of_beq_eq_true hz
      simp only [cond_true]
      cases str with
      | true =>
        simp only [cond_true]
        by_cases hg : ∃ s q, h.get p.1 = .siter s q
        · have hbase := iter_base r hb (.inr hg)
          rw [hv, h0, hbase]
          exact anextS_ok r hb ty
        · unfold anextS
          cases hgg : h.get p.1 <;> simp only [hgg] <;> first | trivial | exact absurd ⟨_, _, hgg⟩ hg
      | false =>
        simp only [cond_false]
        by_cases hg : ∃ m v l c, h.get p.1 = .iter m v l c
        · have hbase := iter_base r hb (.inl hg)
          rw [hv, h0, hbase]
          exact anextM_ok r hb ty
        · unfold anextM
          cases hgg : h.get p.1 with
          | iter m v l c => exact absurd ⟨_, _, _, _, hgg⟩ hg
          | _ => simp only [hgg]; trivial

include r in
theorem opEntry_ok {a : A} {A' : Act} (ha : AR μ a A') (it : Operand) : SVal P μ h w (Instr.entry (A'.eval it)) (opEntry it P a h) := by
  unfold opEntry
  cases hp : (a.ev it).ptr? with
  | none => simp only [hp]; trivial
  | some p =>
    simp only [hp]
    have hx := ev_vr ha it
    rw [V.ptr?_some hp] at hx
    obtain ⟨L, hb, hv⟩ := hx.ptr
    cases hz : Nat.beq p.2 0 with
    | false => trivial
    | true =>
      have h0 := Nat.eq_of_beq_eq_true hz
      simp only [cond_true]
      refine SVal.of fun y hy => ?_
      unfold aentry at hy
      cases hg : h.get p.1 <;> simp only [hg] at hy <;> try (cases hy; done)
      rename_i m ver left cur
      cases m with
      | none => simp at hy
      | some m =>
        cases cur with
        | none => simp at hy
        | some k =>
          simp only at hy
          cases hmb : h.map? m with
          | none => simp [hmb] at hy
          | some q =>
            obtain ⟨ver', es⟩ := q
            simp only [hmb] at hy
            cases hver : Nat.beq ver ver' with
            | false => simp [hver] at hy
            | true =>
              have hv' := Nat.eq_of_beq_eq_true hver
              subst hv'
              simp only [hver, cond_true] at hy
              cases hf : findK k es with
              | none => simp [hf] at hy
              | some o =>
                cases o with
                | none => simp [hf] at hy
                | some v =>
                  simp only [hf, Option.some.injEq] at hy
                  subst hy
                  have ho := r.obj p.1 L hb
                  rw [hg] at ho
                  obtain ⟨hbase, Lm, hm, since, seen, stepped, h1⟩ := ho
                  have hgm := map?_get hmb
                  obtain ⟨_, hits⟩ := r.its p.1 L m ver left _ hb hg Lm since seen stepped hm h1 ver es hgm
                  obtain ⟨ents, clk, h2, rfl, rfl, hit⟩ := hits rfl
                  have hom := r.obj m Lm hm
                  rw [hgm] at hom
                  obtain ⟨ents', clk', h3, hmr⟩ := hom
                  rw [h2] at h3; cases h3
                  obtain ⟨e, he, hback, hke⟩ := hit.cur k rfl
                  obtain ⟨l', hp', hr'⟩ := hmr.rel
                  obtain ⟨e', he', h4, h5, h6, h7⟩ := findK_found hf hmr.apart hr'
                  have hee : e = e' := by
                    by_cases hee : e = e'
                    · exact hee
                    · obtain ⟨q, h8, h9⟩ := h7 e (hp'.mem_iff.2 he) hee
                      exact absurd h9 (KR_apart hke h8)
                  subst hee
                  refine ⟨.tuple #[e.key, e.val], ?_, ?_⟩
                  · rw [hv, h0, hbase]
                    unfold Instr.entry
                    have hfind : ents.find? (fun x => x.born == e.born) = some e := by
                      rw [← Array.find?_toList]; exact find_born e ents.toList hmr.nodup he
                    simp only [Sem.run_bind, run_getObj_of h1 (by simp), Result.andThen_ok, hback, run_getObj_of h2 (by simp), bne_self_eq_false, Bool.false_eq_true, if_false, hfind, Sem.run_pure]
                  · simp only [VR, VRs]
                    exact ⟨_, rfl, e.key, _, rfl, KR.vr hke μ, e.val, [], rfl, h5, rfl⟩

include ok r in
theorem opRange_ok {a : A} {A' : Act} (ha : AR μ a A') (t : TypeId) (x : Operand) : SVal P μ h w (Instr.range t (A'.eval x)) (opRange t x P a h) := by
  unfold opRange
  have hx := ev_vr ha x
  have ptrVR : ∀ L, L.base = 0 → VR (muNew μ h.next L) (ptr0 h.next) (.pointer (some ⟨L.blk, 0, none⟩)) := fun L h0 => by
    simp only [ptr0, VR]; exact ⟨L, muNew_same _ _ _, by rw [h0]⟩
  cases he : a.ev x <;> simp only [he] <;> try trivial
  case str s =>
    rw [he] at hx
    obtain ⟨bs, hv, hbs⟩ := hx.str
    cases hu : P.underlying t with
    | none => simp only [hu]; trivial
    | some d =>
      cases d <;> simp only [hu] <;> try trivial
      rw [alloc_eq]
      refine ⟨_, w.alloc (.stringIter bs 0), _, ?_, r.alloc (.siter s 0) (.stringIter bs 0) ⟨w.heap.size, 0, 0, 0⟩ rfl (fun _ _ _ _ => by simp) ⟨rfl, bs, push_new, hbs⟩, ptrVR _ rfl⟩
      rw [hv]
      simp [Instr.range, run_und ok w hu]
  case nilm =>
    rw [he] at hx
    cases hm : isMapT P t with
    | false => trivial
    | true =>
      obtain ⟨k, e, hu⟩ := isMapT_und hm
      simp only [cond_true]
      rw [alloc_eq]
      refine ⟨_, w.alloc (.mapIter none 0 #[] 0), _, ?_, r.alloc (.iter none 0 [] none) (.mapIter none 0 #[] 0) ⟨w.heap.size, 0, 0, 0⟩ rfl (fun _ _ _ _ => by simp) ⟨rfl, 0, #[], 0, push_new⟩, ptrVR _ rfl⟩
      rw [hx.nilm]
      simp [Instr.range, run_und ok w hu]
  case mp m =>
    rw [he] at hx
    obtain ⟨Lm, hb, hv⟩ := hx.mp
    cases hm : isMapT P t with
    | false => trivial
    | true =>
      obtain ⟨k, e, hu⟩ := isMapT_und hm
      simp only [cond_true]
      cases hmb : h.map? m with
      | none => simp only [hmb]; trivial
      | some q =>
        obtain ⟨ver, es⟩ := q
        simp only [hmb]
        have hgm := map?_get hmb
        have hom := r.obj m Lm hb
        rw [hgm] at hom
        obtain ⟨ents, clk, h2, hmr⟩ := hom
        rw [alloc_eq]
        have hmlt := r.dom m Lm hb
        have hltm := r.lt m Lm hb
        refine ⟨_, w.alloc (.mapIter (some Lm.blk) clk #[] clk), _, ?_, r.alloc' (.iter (some m) ver (es.map (·.1)) none) (.mapIter (some Lm.blk) clk #[] clk) ⟨w.heap.size, 0, 0, 0⟩ rfl ?_ ?_ (fun _ => rfl), ptrVR _ rfl⟩
        · rw [hv]
          simp [Instr.range, run_und ok w hu, run_getObj_of h2 (by simp)]
        · intro m' ver2 left2 cur2 heq Lm2 since2 seen2 stepped2 hm2 hi2 ver3 es3 hgm2
          cases heq
          rw [muNew_other (by omega), hb] at hm2; cases hm2
          rw [push_new] at hi2; cases hi2
          rw [H.get_new, if_neg (by omega), hgm] at hgm2; cases hgm2
          refine ⟨Nat.le_refl _, fun _ => ⟨ents, clk, (push_old hltm).trans h2, rfl, rfl, ⟨?_, fun k hk => by cases hk⟩⟩⟩
          obtain ⟨l, hp, hr⟩ := hmr.rel
          exact ⟨l, by rw [List.filter_eq_self.2 (fun _ _ => by simp)]; exact hp, hr.keys⟩
        · exact ⟨rfl, Lm, by rw [muNew_other (by omega)]; exact hb, clk, #[], clk, push_new⟩
end
end Ae

namespace Ae
open Go

/-- a new row of the abstract heap at a block whose other rows are looked at no more -/
theorem RR.share {μ : Mu} {h : H} {w w' : World} (r : RR μ h w.heap) {blk : Nat} (hdead : ∀ b L, μ b = some L → L.blk = blk → isLive (h.get b) = false) (hin : ∃ b L, μ b = some L ∧ L.blk = blk ∧ qRow (h.get b) = false)
    (n es : Nat) (l : List V) (d : V) (L2 : Loc) (hL : L2.blk = blk) (ho : OR μ w'.heap L2 (.cells n es l d))
    (hsz : w'.heap.size = w.heap.size) (hoth : ∀ c, c ≠ blk → w'.heap[c]? = w.heap[c]?) (ht : w'.tape = w.tape) (hos : w'.os = w.os) (hout : w'.output = w.output) (hzb : L2.es = 0 → L2.base = 0) :
    Post μ h w (muNew μ h.next L2) (h.new (.cells n es l d)) w' := by
  have hsub := r.sub_new L2
  have hblt : blk < w.heap.size := by obtain ⟨b, L, h1, h2, _⟩ := hin; rw [← h2]; exact r.lt b L h1
  refine ⟨⟨?_, ?_, ?_, ?_, ?_, ?_, ?_, by rw [H.pc_new]; exact r.pc.mono hsub⟩, ?_, ?_, ?_, ?_, ?_, r.qnew _, ht, hos, hout⟩
  · intro b L' e
    rw [H.next_new]
    by_cases hb : b = h.next
    · omega
    · rw [muNew_other hb] at e; have := r.dom b L' e; omega
  · intro b L' e
    rw [hsz]
    by_cases hb : b = h.next
    · subst hb; rw [muNew_same] at e; cases e; omega
    · rw [muNew_other hb] at e; exact r.lt b L' e
  · intro b L' e
    rw [H.get_new]
    by_cases hb : b = h.next
    · subst hb; rw [muNew_same] at e; cases e; rw [if_pos rfl]; exact OR.mono hsub _ ho
    · rw [muNew_other hb] at e; rw [if_neg hb]
      by_cases hl : isLive (h.get b) = true
      · have : L'.blk ≠ blk := fun e1 => by rw [hdead b L' e e1] at hl; cases hl
        exact OR.congr (hoth _ this) _ (OR.mono hsub _ (r.obj b L' e))
      · cases hgc : h.get b <;> rw [hgc] at hl <;> first | exact trivial | exact absurd rfl hl
  · intro b b' L1 L2' e1 e2 hne l1 l2
    rw [H.get_new] at l1 l2
    by_cases hb : b = h.next <;> by_cases hb' : b' = h.next
    · omega
    · subst hb; rw [muNew_same] at e1; cases e1; rw [muNew_other hb'] at e2; rw [if_neg hb'] at l2
      intro e; rw [hdead b' L2' e2 (by rw [← e, hL])] at l2; cases l2
    · subst hb'; rw [muNew_same] at e2; cases e2; rw [muNew_other hb] at e1; rw [if_neg hb] at l1
      intro e; rw [hdead b L1 e1 (by rw [e, hL])] at l1; cases l1
    · rw [muNew_other hb] at e1; rw [muNew_other hb'] at e2; rw [if_neg hb] at l1; rw [if_neg hb'] at l2
      exact r.sep b b' L1 L2' e1 e2 hne l1 l2
  · intro b L1 m ver left cur e hg
    rw [H.get_new] at hg
    by_cases hb : b = h.next
    · rw [if_pos hb] at hg; cases hg
    · rw [if_neg hb] at hg; rw [muNew_other hb] at e
      intro Lm since seen stepped hm hi ver' es' hgm
      have hb1 : L1.blk ≠ blk := fun e1 => by have := hdead b L1 e e1; rw [hg] at this; cases this
      rw [hoth _ hb1] at hi
      have hm' : μ m = some Lm ∧ m ≠ h.next := by
        by_cases hmn : m = h.next
        · rw [H.get_new, if_pos hmn] at hgm; cases hgm
        · rw [muNew_other hmn] at hm; exact ⟨hm, hmn⟩
      rw [H.get_new, if_neg hm'.2] at hgm
      obtain ⟨h1, h2⟩ := r.its b L1 m ver left cur e hg Lm since seen stepped hm'.1 hi ver' es' hgm
      refine ⟨h1, fun hv => ?_⟩
      obtain ⟨ents, clk, h3, h4⟩ := h2 hv
      have hbm : Lm.blk ≠ blk := fun e1 => by have := hdead m Lm hm'.1 e1; rw [hgm] at this; cases this
      exact ⟨ents, clk, (hoth _ hbm).trans h3, h4⟩
  · intro b hb
    rw [H.next_new] at hb
    rw [H.get_new, if_neg (by omega)]; exact r.up b (by omega)
  · intro b L' e
    by_cases hb : b = h.next
    · subst hb; rw [muNew_same] at e; cases e; exact hzb
    · rw [muNew_other hb] at e; exact r.zb b L' e
  · intro b hb; rw [muNew_other (by omega)]
  · rw [H.next_new]; omega
  · omega
  · intro c hc hn
    obtain ⟨b, L, h1, h2, h3⟩ := hin
    exact hoth c (fun e => by rw [hn b L h1 (h2.trans e.symm)] at h3; cases h3)
  · intro b L' e
    by_cases hb : b = h.next
    · subst hb; rw [muNew_same] at e; cases e
      obtain ⟨b0, L0, h1, h2, h3⟩ := hin
      exact .inl ⟨b0, L0, h1, h2.trans hL.symm, .inr h3⟩
    · rw [muNew_other hb] at e; exact .inl ⟨b, L', e, rfl, .inl rfl⟩

theorem growBy_le (need : Nat) : ∀ k c, c ≤ 2 * need + 192 → Builtin.growBy need k c ≤ 2 * need + 192
  | 0, c, h => h
  | k + 1, c, h => by
    unfold Builtin.growBy
    split
    · exact h
    · exact growBy_le need k _ (by omega)
theorem nextslicecap_le {need old : Nat} (h : old < need) : Builtin.nextslicecap need old ≤ 2 * need + 512 := by
  unfold Builtin.nextslicecap
  split
  · omega
  · split
    · omega
    · have := growBy_le need 4 old (by omega); omega

section
variable {P : Tb} {μ : Mu} {h : H} {w : World} (ok : P.Ok) (r : RR μ h w.heap)

include r in
/-- the cells of a source -/
theorem source_ok {size : Nat} {x : V} {v : Value} (hx : VR μ x v) {cs : List V} {n : Nat} (hs : source h size x = some (cs, n)) :
    ∃ new : Array Value, (Builtin.lenOf v).run P.P w = .ok n w ∧ (Builtin.firstCells size n v).run P.P w = .ok new w ∧ VRs μ cs new.toList ∧ cs.length = n * size := by
  unfold source at hs
  cases x <;> simp only at hs <;> try (cases hs; done)
  case str s =>
    obtain ⟨b, rfl, hb⟩ := hx.str
    cases hz : Nat.beq size 1 with
    | false => simp [hz] at hs
    | true =>
      have h1 := Nat.eq_of_beq_eq_true hz
      simp only [hz, cond_true, Option.some.injEq, Prod.mk.injEq] at hs
      obtain ⟨rfl, rfl⟩ := hs
      have hl := bytes_len b hb
      refine ⟨b.data.map fun b => .int .u8 b.toNat, by rw [hl]; rfl, ?_, ?_, ?_⟩
      · unfold Builtin.firstCells
        simp only [Sem.run_pure]
        congr 2
        rw [ByteArray.data_extract, hl, show b.size = b.data.size from rfl, Array.extract_size]
      · refine VRs.of_get (d := .any) (by rw [u8s_eq]; simp; exact hl) fun i hi => ?_
        have hil : i < b.data.size := by rw [u8s_eq, List.length_map] at hi; rw [show b.data.size = b.size from rfl]; omega
        refine ⟨.int .u8 (b.data[i]'hil).toNat, ?_, ?_⟩
        · rw [Array.getElem?_toList, Array.getElem?_map, Array.getElem?_eq_getElem hil]; rfl
        · rw [lget_lt _ _ _ hi]
          have : (u8s s)[i] = V.int .u8 (Int.ofNat (b.data[i]'hil).toNat) := by
            simp only [u8s_eq, ← hb, List.getElem_map, Array.getElem_toList]
          rw [this]; simp [VR]
      · rw [u8s_eq, h1]; simp
  case nils l c =>
    cases hx.nils
    cases hz : Nat.beq l 0 with
    | false => simp [hz] at hs
    | true =>
      have h1 := Nat.eq_of_beq_eq_true hz
      simp only [hz, cond_true, Option.some.injEq, Prod.mk.injEq] at hs
      obtain ⟨rfl, rfl⟩ := hs
      subst h1
      exact ⟨#[], rfl, rfl, by simp [VRs], by simp⟩
  case sl b off l c ex =>
    obtain ⟨L, a, c', hL, rfl, hsl⟩ := hx.sl
    cases hl : h.load b off (l * size) with
    | none => simp [hl] at hs
    | some k =>
      simp only [hl, Option.some.injEq, Prod.mk.injEq] at hs
      obtain ⟨rfl, rfl⟩ := hs
      obtain ⟨arr, et, fr, h4, h5, h6, h7⟩ := load_vr r hL hl
      refine ⟨arr.extract (L.base + off) (L.base + off + l * size), rfl, ?_, h7, h6⟩
      unfold Builtin.firstCells
      rcases hsl.at_ with h0 | h0
      · have hl0 : l = 0 := by have := hsl.len; omega
        subst hl0
        have e0 : arr.extract (L.base + off) (L.base + off + 0 * size) = #[] := by simp; omega
        rw [e0]; simp [loadCells, loadCellsFrom]
      · rw [h0]; exact run_loadCells' P.P w _ _ h4 _ h5

theorem isIntT_und {t : TypeId} : (P.underlying t).isSome = true → ∃ d, P.underlying t = some d ∧ (isIntT P t = true ↔ ∃ k, d = .int k) := by
  intro h1
  obtain ⟨d, hd⟩ := Option.isSome_iff_exists.1 h1
  refine ⟨d, hd, ?_⟩
  unfold isIntT; rw [hd]
  cases d <;> simp

theorem zeroCells_repl {z : List V} {zs : Array Value} (hz : VRs μ z zs.toList) (h0 : 0 < z.length) (n : Nat) : VRs μ (repl z n) (Builtin.zeroCells zs n).toList := by
  unfold Builtin.zeroCells
  exact repl_vr hz h0 n

/-- what append_ does, in parts: the elements appended; the room -/
def appendedS (elem : TypeId) (size n : Nat) (zeros : Bool) (x : Value) : Sem (Array Value) :=
  if !zeros then Builtin.firstCells size n x
  else if n * size = 0 then pure #[]
  else do pure (Builtin.zeroCells (← zeroValue elem).cells n)
def appendTail (elem : TypeId) (size bytes sLen sCap n : Nat) (zeros : Bool) (base : Option Addr) (s x : Value) : Sem Value := do
  if sLen + n ≤ sCap then
    let new ← appendedS elem size n zeros x
    if let some a := base then storeCells (a.add (sLen * size)) new.toList
    pure (.slice base (sLen + n) sCap)
  else
    let newCap ← choose (.appendCap (sLen + n) sCap elem)
    askRoom (newCap * bytes)
    let old ← Builtin.firstCells size sLen s
    let new ← appendedS elem size n zeros x
    let rest := Builtin.zeroCells (← zeroValue elem).cells (newCap - (sLen + n))
    pure (.slice (some (← newRow elem (old ++ new ++ rest))) (sLen + n) newCap)

include ok in
theorem append_run {t tx e : TypeId} {z : List V} {i : TypeInfo} (he : elemT P t = some e) (hz : zcellsT P e = some z) (hi : P.info? e = some i) (hb : i.bytes ≤ 65536)
    {base : Option Addr} {sLen sCap : Nat} {x : V} {v : Value} (hx : VR μ x v) {cs : List V} {n : Nat} (hn : news P h z tx x = some (cs, n)) (hneed : sLen + n ≤ 1048576 ∨ sLen + n ≤ sCap) (ts : Array TypeId) (h0 : ts[0]? = some t) (h1 : ts[1]? = some tx) (ty : TypeId) (r : RR μ h w.heap) :
    ∃ zeros : Bool, (∀ w' : World, RR μ h w'.heap → ∃ new, (appendedS e z.length n zeros v).run P.P w' = .ok new w' ∧ VRs μ cs new.toList ∧ cs.length = n * z.length) ∧
      (Builtin.append_ ts ty #[.slice base sLen sCap, v]).run P.P w = (appendTail e z.length i.bytes sLen sCap n zeros base (.slice base sLen sCap) v).run P.P w := by
  obtain ⟨zv, s, h4, h5, rfl, h6, h7⟩ := zcellsT_spec hz
  have hu := run_und ok w (elemT_und he)
  have hs5 := run_size ok w h5
  unfold news at hn
  cases hd : P.underlying tx with
  | none => simp [hd] at hn
  | some d =>
    simp only [hd] at hn
    have hdu := run_und ok w hd
    have cut : ¬ sLen + n ≤ sCap → ¬ (((sLen + n : Nat) : Int) > IntKind.i64.max) := by
      intro hlt
      have h := hneed.resolve_right hlt
      have : IntKind.i64.max = 9223372036854775807 := by decide
      rw [this]; omega
    have big : ¬ sLen + n ≤ sCap → ¬ Builtin.nextslicecap (sLen + n) sCap * i.bytes > 2 ^ 48 := by
      intro hlt
      have hs : sLen + n ≤ 1048576 := hneed.resolve_right hlt
      have h2 := nextslicecap_le (need := sLen + n) (old := sCap) (by omega)
      have h3 : Builtin.nextslicecap (sLen + n) sCap * i.bytes ≤ 4194304 * 65536 := Nat.mul_le_mul (by omega) hb
      omega
    cases hint : isIntT P tx with
    | false =>
      simp only [hint, cond_false] at hn
      have hnk : ∀ k, d ≠ .int k := fun k e1 => by subst e1; unfold isIntT at hint; rw [hd] at hint; cases hint
      refine ⟨false, fun w' r' => ?_, ?_⟩
      · obtain ⟨new, h9, h10, h11, h12⟩ := source_ok (P := P) r' hx hn
        exact ⟨new, by unfold appendedS; simpa using h10, h11, h12⟩
      · obtain ⟨new, h9, h10, h11, h12⟩ := source_ok (P := P) r hx hn
        unfold Builtin.append_ appendTail
        simp only [h0, h1, List.getElem?_toArray, List.getElem?_cons_zero, List.getElem?_cons_succ, Sem.run_bind, hu, hs5, hdu, Result.andThen_ok, Sem.run_pure, Bool.false_eq_true, if_false, h9, h6]
        by_cases hle : sLen + n ≤ sCap
        · simp only [hle, if_true]
          rfl
        · have hc := cut hle
          simp only [hle, if_false, hc, false_and]
          simp only [Sem.run_bind, run_info ok w hi, Result.andThen_ok, big hle, if_false]
          simp only [run_appendCap, Result.andThen_ok, run_info ok w.drew hi]
          rfl
    | true =>
      simp only [hint, cond_true] at hn
      obtain ⟨zr, h8, rfl⟩ := zero_of ok w h4
      have hzs := zcells_vr μ zr
      cases hnum : x.num? with
      | none => simp [hnum] at hn
      | some m =>
        simp only [hnum] at hn
        obtain ⟨k, hk⟩ := V.num?_some hnum
        subst hk
        cases hx.int
        cases hbb : (decide (0 ≤ m) && decide (m ≤ 1048576)) with
        | false => simp [hbb] at hn
        | true =>
          simp only [hbb, cond_true, Option.some.injEq, Prod.mk.injEq] at hn
          obtain ⟨rfl, rfl⟩ := hn
          simp only [Bool.and_eq_true, decide_eq_true_eq] at hbb
          have hw64 : IntKind.i64.wrap m = m := wrap_i64' m (by omega) (by omega)
          have hmb : m * (i.bytes : Int) ≤ 1048576 * 65536 := Int.mul_le_mul hbb.2 (by omega) (by omega) (by omega)
          refine ⟨true, fun w' r' => ?_, ?_⟩
          · obtain ⟨zr', h8', h9'⟩ := zero_of ok w' h4
            have hzs' : VRs μ (ofVal zr).cells zr'.cells.toList := by rw [h9']; exact zcells_vr μ zr'
            refine ⟨Builtin.zeroCells zr'.cells m.toNat, ?_, zeroCells_repl hzs' (by omega) _, repl_length _ _⟩
            unfold appendedS
            simp only [Bool.not_true, Bool.false_eq_true, if_false]
            by_cases h00 : m.toNat * (ofVal zr).cells.length = 0
            · have hm0 : m.toNat = 0 := by rcases Nat.mul_eq_zero.1 h00 with h | h <;> omega
              rw [if_pos h00, hm0]; simp [Builtin.zeroCells]
            · rw [if_neg h00]
              simp only [Sem.run_bind, h8', Result.andThen_ok, Sem.run_pure]
          · obtain ⟨d', hd', hd''⟩ := isIntT_und (P := P) (t := tx) (by rw [hd]; rfl)
            obtain ⟨kk, rfl⟩ := hd''.1 hint
            rw [hd] at hd'; cases hd'
            unfold Builtin.append_ appendTail
            have e1 : ¬ m < 0 := by omega
            have e2 : ¬ m * (i.bytes : Int) > 2 ^ 48 := by omega
            simp only [h0, h1, List.getElem?_toArray, List.getElem?_cons_zero, List.getElem?_cons_succ, Sem.run_bind, hu, hs5, hdu, Result.andThen_ok, Sem.run_pure, if_true, asInt, asIntOf, hw64, e1, if_false, run_info ok w hi, e2, h6]
            by_cases hle : sLen + m.toNat ≤ sCap
            · simp only [hle, if_true]
              rfl
            · have hc := cut hle
              simp only [hle, if_false, hc, false_and]
              simp only [Sem.run_bind, run_info ok w hi, Result.andThen_ok, big hle, if_false]
              simp only [run_appendCap, Result.andThen_ok, run_info ok w.drew hi]
              rfl
end
end Ae

namespace Ae
open Go

section
variable {P : Tb} {μ : Mu} {h : H} {w : World} (ok : P.Ok) (r : RR μ h w.heap)

theorem grown_ok {d : V} {h1 : H} (p : Post μ h w μ h1 w) {s : Sem Value} {es need newCap : Nat} {cs : List V} {c rest : Array Value} {e : TypeId} (hv : VRs μ cs c.toList) (hlen : cs.length = need * es)
    (hle : need ≤ newCap) (hrest : rest.size = (newCap - need) * es) (hrun : s.run P.P w = .ok (.slice (some ⟨w.heap.size, 0, none⟩) need newCap) (w.drew.alloc (.cells (c ++ rest) e))) :
    SVal P μ h w s (grown d h1 es need cs) := by
  unfold grown
  rw [frc_eq, frc_eq, alloc_eq]
  have hcl : c.size = need * es := by rw [← hlen]; simpa using hv.length.symm
  have p1 := p.trans (Post.drew p.rr)
  have p2 := alloc_cells (w := w.drew) (μ := μ) (h := h1) p1.rr (need * es) es cs d (c ++ rest) e (by simp; omega) fun i hi => by
    obtain ⟨v, h1, h2⟩ := hv.get i d (by omega)
    refine ⟨v, ?_, h2⟩
    rw [Array.getElem?_append_left (by omega)]; simpa using h1
  refine ⟨_, _, _, hrun, p1.trans p2, ?_⟩
  simp only [VR]
  refine ⟨_, ⟨w.heap.size, 0, none⟩, newCap, muNew_same _ _ _, rfl, hle, by simp, hle, rfl, rfl, .inr rfl, fun _ => ?_⟩
  simp only [Array.size_append, hcl, hrest, Nat.zero_add]
  rw [← Nat.add_mul]
  have : need + (newCap - need) = newCap := by omega
  rw [this]; exact Nat.le_refl _

theorem zeroCells_size (zs : Array Value) (n : Nat) : (Builtin.zeroCells zs n).size = n * zs.size := by simp [Builtin.zeroCells]

theorem smallT_spec {e : TypeId} (hs : smallT P e = true) : ∃ i, P.info? e = some i ∧ i.bytes ≤ 65536 := by
  unfold smallT at hs
  cases hi : P.info? e with
  | none => simp [hi] at hs
  | some i => exact ⟨i, rfl, by rw [hi] at hs; exact Nat.le_of_ble_eq_true hs⟩

include ok r in
theorem aappend_ok {t tx : TypeId} {s x : V} {sv v : Value} (hs : VR μ s sv) (hx : VR μ x v) (ts : Array TypeId) (h0 : ts[0]? = some t) (h1 : ts[1]? = some tx) (ty : TypeId) :
    SVal P μ h w (Builtin.append_ ts ty #[sv, v]) (aappend P h t tx s x) := by
  unfold aappend
  cases he : elemT P t with
  | none => simp only [he]; trivial
  | some e =>
    cases hz : zcellsT P e with
    | none => simp only [he, hz]; trivial
    | some z =>
      cases hn : news P h z tx x with
      | none => simp only [he, hz, hn]; trivial
      | some q =>
        obtain ⟨cs, n⟩ := q
        simp only [he, hz, hn]
        cases hsm : smallT P e with
        | false => trivial
        | true =>
          simp only [cond_true]
          obtain ⟨i, hi, hby⟩ := smallT_spec hsm
          obtain ⟨zv, sz, h4, h5, hzz, h6, h7⟩ := zcellsT_spec hz
          obtain ⟨zr, h8, hzr⟩ := zero_of ok w.drew h4
          have hzl : z.length = zr.cells.size := by rw [hzz, hzr]; simpa using (zcells_vr μ zr).length
          cases s <;> simp only <;> try trivial
          case nils len cap =>
            cases hs.nils
            cases hfit : Nat.ble (len + n) cap with
            | true =>
              have hfit' := Nat.le_of_ble_eq_true hfit
              obtain ⟨zeros, happ, hrun⟩ := append_run (base := none) (sLen := len) (sCap := cap) ok he hz hi hby hx hn (.inr hfit') ts h0 h1 ty r
              obtain ⟨new, h9, h10, h11⟩ := happ w r
              refine ⟨.slice none (len + n) cap, ?_, by simp [VR]⟩
              rw [hrun]; unfold appendTail
              simp only [hfit', if_true, Sem.run_bind, h9, Result.andThen_ok]
              rfl
            | false =>
              simp only [cond_false]
              cases hb : (Nat.beq len 0 && Nat.ble n 1048576) with
              | false => trivial
              | true =>
                simp only [cond_true]
                simp only [Bool.and_eq_true] at hb
                have hl0 := Nat.eq_of_beq_eq_true hb.1
                have hn' := Nat.le_of_ble_eq_true hb.2
                subst hl0
                have hfit' : ¬ 0 + n ≤ cap := fun hh => by rw [Nat.ble_eq_true_of_le hh] at hfit; cases hfit
                obtain ⟨zeros, happ, hrun⟩ := append_run (base := none) (sLen := 0) (sCap := cap) ok he hz hi hby hx hn (.inl (by omega)) ts h0 h1 ty r
                obtain ⟨new, h9, h10, h11⟩ := happ w.drew r
                have hcut := cut_append (0 + n) cap e (w.tape w.drawn (.appendCap (0 + n) cap e))
                refine grown_ok (Post.refl r) (c := new) (newCap := Question.cut (.appendCap (0 + n) cap e) (w.tape w.drawn (.appendCap (0 + n) cap e)))
                  (rest := Builtin.zeroCells zr.cells (Question.cut (.appendCap (0 + n) cap e) (w.tape w.drawn (.appendCap (0 + n) cap e)) - (0 + n))) (e := e) h10 h11 (by omega) (by rw [zeroCells_size, hzl]; congr 1; omega) ?_
                rw [hrun]; unfold appendTail
                simp only [hfit', if_false, Sem.run_bind, run_appendCap, Result.andThen_ok, run_askRoom]
                have : (Builtin.firstCells z.length 0 (.slice none 0 cap)).run P.P w.drew = .ok #[] w.drew := rfl
                simp only [this, Result.andThen_ok, h9, h8, newRow_run, Array.empty_append, Sem.run_pure, Nat.zero_add]
                rfl
          case sl b off len cap ex =>
            obtain ⟨L, a, c', hL, rfl, hsl⟩ := hs.sl
            cases hbig : Nat.ble (len + n) 1048576 with
            | false => trivial
            | true =>
              simp only [cond_true]
              have hbig' := Nat.le_of_ble_eq_true hbig
              obtain ⟨zeros, happ, hrun⟩ := append_run (base := some a) (sLen := len) (sCap := c') ok he hz hi hby hx hn (.inl hbig') ts h0 h1 ty r
              unfold appendSl
              cases hfit : Nat.ble (len + n) cap with
              | true =>
                simp only [cond_true]
                have hfit' := Nat.le_of_ble_eq_true hfit
                have hfc : len + n ≤ c' := Nat.le_trans hfit' hsl.le
                obtain ⟨new, h9, h10, h11⟩ := happ w r
                refine SVal.sel' fun hall => ?_
                cases hst : h.store b (off + len * z.length) cs with
                | none => simp only [hst]; trivial
                | some h' =>
                  simp only [hst]
                  rw [frc_eq]
                  have hone : ∀ v ∈ new.toList, v.oneCell' = true := allOne_vr h10 hall
                  obtain ⟨w', h12, h13⟩ := store_vr P.P r hL hst h10 hone
                  refine ⟨.slice (some a) (len + n) c', w', μ, ?_, h13, ?_⟩
                  · rw [hrun]; unfold appendTail
                    simp only [hfc, if_true, Sem.run_bind, h9, Result.andThen_ok]
                    rcases hsl.at_ with e0 | e0
                    · have hn0 : n = 0 := by omega
                      subst hn0
                      have hnew : new.toList = [] := by
                        have := h10.length; rw [h11] at this; simp at this; exact List.eq_nil_of_length_eq_zero (by simpa using this.symm)
                      rw [hnew] at h12 ⊢
                      have hww : w' = w := by
                        have : (storeCells ⟨L.blk, L.base + (off + len * z.length), none⟩ [] 0).run P.P w = .ok () w := rfl
                        rw [this] at h12; cases h12; rfl
                      rw [hww]; rfl
                    · rw [e0, add_eq, ← Nat.add_assoc] at *
                      rw [h12]; rfl
                  · simp only [VR]
                    exact ⟨L, a, c', hL, rfl, hsl.le, hsl.xct, hfc, hsl.blk, hsl.spot, hsl.at_, hsl.room⟩
              | false =>
                simp only [cond_false]
                have hnfit : ¬ len + n ≤ cap := fun hh => by rw [Nat.ble_eq_true_of_le hh] at hfit; cases hfit
                cases hld : h.load b off (len * z.length) with
                | none => simp only [hld]; trivial
                | some olds =>
                  simp only [hld]
                  obtain ⟨arr, et, fr, g1, g2, g3, g4⟩ := load_vr r hL hld
                  -- what the old elements are, in a world that differs by a draw
                  have hold : ∀ w1 : World, w1.heap = w.heap → (Builtin.firstCells z.length len (.slice (some a) len c')).run P.P w1 = .ok (arr.extract (L.base + off) (L.base + off + len * z.length)) w1 := by
                    intro w1 hw1
                    unfold Builtin.firstCells
                    rcases hsl.at_ with e0 | e0
                    · have hl0 : len = 0 := by have := hsl.len; omega
                      subst hl0
                      have e1 : arr.extract (L.base + off) (L.base + off + 0 * z.length) = #[] := by simp; omega
                      rw [e1]; simp [loadCells, loadCellsFrom]
                    · rw [e0]; exact run_loadCells' P.P w1 _ _ (by rw [hw1]; exact g1) _ g2
                  -- the row grows
                  have grow : ¬ len + n ≤ c' → ∀ {d : V} {h1 : H}, Post μ h w μ h1 w → SVal P μ h w (Builtin.append_ ts ty #[.slice (some a) len c', v]) (grown d h1 z.length (len + n) (app olds cs)) := by
                    intro hnc d h1 hp1
                    obtain ⟨new, h9, h10, h11⟩ := happ w.drew r
                    have hcut := cut_append (len + n) c' e (w.tape w.drawn (.appendCap (len + n) c' e))
                    refine grown_ok hp1 (c := arr.extract (L.base + off) (L.base + off + len * z.length) ++ new) (newCap := Question.cut (.appendCap (len + n) c' e) (w.tape w.drawn (.appendCap (len + n) c' e)))
                      (rest := Builtin.zeroCells zr.cells (Question.cut (.appendCap (len + n) c' e) (w.tape w.drawn (.appendCap (len + n) c' e)) - (len + n))) (e := e) ?_ ?_ hcut (by rw [zeroCells_size, hzl]) ?_
                    · rw [app_eq, Array.toList_append]; exact g4.app h10
                    · rw [app_eq, List.length_append, g3, h11, Nat.add_mul]
                    · rw [hrun]; unfold appendTail
                      simp only [hnc, if_false, Sem.run_bind, run_appendCap, Result.andThen_ok, run_askRoom, hold w.drew rfl, h9, h8, newRow_run, Sem.run_pure]
                      rfl
                  cases ex with
                  | true =>
                    simp only [cond_true]
                    exact grow (by have := hsl.xct rfl; omega) (Post.refl r)
                  | false =>
                    simp only [cond_false]
                    refine SVal.sel' fun hall => ?_
                    cases hg : h.get b with
                    | cells m es' l0 d0 =>
                      simp only
                      cases hb2 : (Nat.beq (off + len * z.length) m && Nat.beq z.length es' && notB (isRo d0)) with
                      | false => trivial
                      | true =>
                        simp only [cond_true]
                        simp only [Bool.and_eq_true] at hb2
                        have hm := Nat.eq_of_beq_eq_true hb2.1.1
                        have hes := Nat.eq_of_beq_eq_true hb2.1.2
                        have hro : isRo d0 = false := by have := hb2.2; rw [notB_eq] at this; simpa using this
                        have hro0 : isRo d0 = false := by have := hb2.2; rw [notB_eq] at this; simpa using this
                        have hkill := r.kill hL hg hro0
                        by_cases hfc : len + n ≤ c'
                        · -- in place, past what is known of the row
                          obtain ⟨new, h9, h10, h11⟩ := happ w r
                          have hob := r.obj b L hL
                          rw [hg] at hob
                          obtain ⟨c2, e2, fr2, g5, g6, g7, g8, g9, g10⟩ := hob
                          rw [g1] at g5; cases g5
                          have g10' := g10.resolve_right fun e0 => by rw [e0] at hro; cases hro
                          have hone : ∀ v ∈ new.toList, v.oneCell' = true := allOne_vr h10 hall
                          have hroom := hsl.room rfl
                          have hLes : L.es = z.length := by rw [g7, ← hes]
                          rw [hLes] at hroom
                          have hnl : new.toList.length = n * z.length := by rw [← h10.length, h11]
                          have hmul : (len + n) * z.length ≤ c' * z.length := Nat.mul_le_mul_right _ hfc
                          rw [Nat.add_mul] at hmul
                          obtain ⟨c3, g11, g12, g13⟩ := run_storeCells P.P L.blk (L.base + off + len * z.length) new.toList 0 w arr et fr g1 (by rw [hnl]; omega) (by omega) hone
                          have hlt : L.blk < w.heap.size := r.lt b L hL
                          unfold grown
                          rw [frc_eq, frc_eq, alloc_eq]
                          have rk := hkill.rr
                          refine ⟨.slice (some a) (len + n) c', setBlk w L.blk (.cells c3 et fr), _, ?_, hkill.trans (rk.share (blk := L.blk) ?_ ⟨b, L, hL, rfl, by rw [H.get_put, if_pos rfl]; rfl⟩ ((len + n) * z.length) z.length (app olds cs) d0 ⟨L.blk, L.base + off, L.csz, L.es⟩ rfl ?_ setBlk_size (fun x hx => setBlk_other hx) rfl rfl rfl (fun e0 => absurd (hLes.symm.trans e0) (h6 ▸ h7))), ?_⟩
                          · rw [hrun]; unfold appendTail
                            simp only [hfc, if_true, Sem.run_bind, h9, Result.andThen_ok]
                            rcases hsl.at_ with e0 | e0
                            · have hn0 : n = 0 := by omega
                              have hnew : new.toList = [] := List.eq_nil_of_length_eq_zero (by rw [hnl, hn0]; simp)
                              rw [hnew] at g11 ⊢
                              have hww : setBlk w L.blk (.cells c3 et fr) = w := by
                                have : (storeCells ⟨L.blk, L.base + off + len * z.length, none⟩ [] 0).run P.P w = .ok () w := rfl
                                rw [this] at g11; exact ((Result.ok.injEq ..).mp g11).2.symm
                              rw [hww]; rfl
                            · rw [e0, add_eq] at *
                              rw [g11]; rfl
                          · intro b2 L2 hb2 hblk
                            rw [H.get_put]
                            by_cases hbb : b2 = b
                            · rw [if_pos hbb]; rfl
                            · rw [if_neg hbb]
                              cases hl2 : isLive (h.get b2) with
                              | false => rfl
                              | true => exact absurd hblk (r.sep b2 b L2 L hb2 hL hbb hl2 (by rw [hg]; rfl))
                          · refine ⟨c3, et, fr, setBlk_same hlt, by rw [g12]; exact g6, hLes, ?_, fun j hj => ?_, .inl ((g10.resolve_right fun e0 => by rw [e0] at hro; cases hro).imp_right fun hfr => ⟨by omega, hfr.2⟩)⟩
                            · show L.base + off + _ ≤ _
                              rw [Nat.add_mul]; omega
                            · show ∃ v, c3[L.base + off + j]? = some v ∧ _
                              rw [app_eq, lget_app, g3, g13]
                              rw [Nat.add_mul] at hj
                              by_cases hjl : j < len * z.length
                              · rw [if_neg (by omega), if_pos hjl]
                                obtain ⟨u, k1, k2⟩ := g4.get j d0 (by omega)
                                refine ⟨u, ?_, k2⟩
                                rw [Array.getElem?_toList, Array.getElem?_extract, if_pos (by omega)] at k1
                                exact k1
                              · rw [if_pos (by omega), if_neg hjl]
                                obtain ⟨u, k1, k2⟩ := h10.get (j - len * z.length) d0 (by omega)
                                exact ⟨u, by rw [← k1]; congr 1; omega, k2⟩
                          · simp only [VR]
                            refine ⟨_, a, c', muNew_same _ _ _, rfl, hfc, fun e0 => by (first | cases e0 | skip), hfc, hsl.blk, hsl.spot, ?_, fun _ => ?_⟩
                            · rcases hsl.at_ with e0 | e0
                              · exact .inl e0
                              · exact .inr (by rw [e0]; rfl)
                            · show L.base + off + 0 + c' * L.es ≤ L.csz
                              rw [hLes]; omega
                        · exact grow hfc hkill
                    | _ => simp only; trivial
end
end Ae

namespace Ae
open Go

section
variable {P : Tb} {μ : Mu} {h : H} {w : World} (ok : P.Ok) (r : RR μ h w.heap)

include ok r in
theorem alen_ok {t : TypeId} {x : V} {v : Value} (hx : VR μ x v) {n : Nat} (hn : alen P h t x = some n) (ts : Array TypeId) (h0 : ts[0]? = some t) (ty : TypeId) :
    (Builtin.len_ ts ty #[v]).run P.P w = .ok (.int .i64 (n : Int)) w := by
  unfold alen at hn
  cases hs : x.slv with
  | sl b off l c ex =>
    have := V.slv_sl hs
    subst this
    obtain ⟨L, a, c', hL, rfl, hsl⟩ := hx.sl
    rw [hs] at hn
    cases hm : isSliceT P t with
    | false => simp [hm] at hn
    | true =>
      simp only [hm, sel_true, Option.some.injEq] at hn
      subst hn
      obtain ⟨e, hu⟩ := isSliceT_und hm
      simp [Builtin.len_, h0, run_und ok w hu, goInt]
  | nils l c =>
    have := V.slv_nils hs
    subst this
    cases hx.nils
    rw [hs] at hn
    cases hm : isSliceT P t with
    | false => simp [hm] at hn
    | true =>
      simp only [hm, sel_true, Option.some.injEq] at hn
      subst hn
      obtain ⟨e, hu⟩ := isSliceT_und hm
      simp [Builtin.len_, h0, run_und ok w hu, goInt]
  | no =>
    rw [hs] at hn
    simp only at hn
    unfold alenO at hn
    cases x <;> simp only at hn <;> try (cases hn; done)
    case str s =>
      obtain ⟨b, rfl, hb⟩ := hx.str
      cases hu : P.underlying t with
      | none => simp [hu] at hn
      | some d =>
        cases d <;> simp [hu] at hn
        subst hn
        simp [Builtin.len_, h0, run_und ok w hu, goInt, bytes_len b hb]
    case nilm =>
      cases hx.nilm
      cases hm : isMapT P t with
      | false => simp [hm] at hn
      | true =>
        simp only [hm, cond_true, Option.some.injEq] at hn
        subst hn
        obtain ⟨k, e, hu⟩ := isMapT_und hm
        simp [Builtin.len_, h0, run_und ok w hu, goInt]
    case mp b =>
      obtain ⟨L, hL, rfl⟩ := hx.mp
      cases hm : isMapT P t with
      | false => simp [hm] at hn
      | true =>
        simp only [hm, cond_true] at hn
        cases hmb : h.map? b with
        | none => simp [hmb] at hn
        | some q =>
          obtain ⟨ver, es⟩ := q
          simp only [hmb, Option.some.injEq] at hn
          subst hn
          obtain ⟨k, e, hu⟩ := isMapT_und hm
          have ho := r.obj b L hL
          rw [map?_get hmb] at ho
          obtain ⟨ents, clk, h1, hm2⟩ := ho
          obtain ⟨l, hp, hr⟩ := hm2.rel
          have : es.length = ents.size := by rw [hr.length, hp.length_eq]; simp
          simp [Builtin.len_, h0, run_und ok w hu, goInt, run_getObj_of h1, this]

include ok in
theorem acap_ok {t : TypeId} {x : V} {v : Value} (hx : VR μ x v) {n : Nat} (hn : acap P t x = some n) (ts : Array TypeId) (h0 : ts[0]? = some t) (ty : TypeId) :
    (Builtin.cap_ ts ty #[v]).run P.P w = .ok (.int .i64 (n : Int)) w := by
  unfold acap at hn
  cases x <;> try (cases hn; done)
  case nils l c =>
    cases hx.nils
    cases hm : isSliceT P t with
    | false => simp [hm] at hn
    | true =>
      simp only [hm, cond_true, Option.some.injEq] at hn
      subst hn
      obtain ⟨e, hu⟩ := isSliceT_und hm
      simp [Builtin.cap_, h0, run_und ok w hu, goInt]
  case sl b off l c ex =>
    obtain ⟨L, a, c', hL, rfl, hsl⟩ := hx.sl
    cases ex with
    | false => cases hn
    | true =>
      change (bif isSliceT P t then some c else none) = some n at hn
      cases hm : isSliceT P t with
      | false => simp [hm] at hn
      | true =>
        simp only [hm, cond_true, Option.some.injEq] at hn
        subst hn
        obtain ⟨e, hu⟩ := isSliceT_und hm
        simp [Builtin.cap_, h0, run_und ok w hu, goInt, hsl.xct rfl]

theorem nat_min (a b : Nat) : Nat.min a b = min a b := rfl
include r in
theorem cut_ok {size len : Nat} {x : V} {v : Value} (hx : VR μ x v) {cs : List V} {n : Nat} (hs : source h size (cut x len) = some (cs, n)) :
    ∃ m, ∃ new : Array Value, (Builtin.lenOf v).run P.P w = .ok m w ∧ Nat.min m len = n ∧ (Builtin.firstCells size n v).run P.P w = .ok new w ∧ VRs μ cs new.toList ∧ cs.length = n * size := by
  unfold cut at hs
  cases x <;> simp only at hs <;> try (unfold source at hs; simp at hs; done)
  case str s =>
    obtain ⟨b, rfl, hb⟩ := hx.str
    have hv2 : VR μ (.str (s.take len)) (.string (b.extract 0 len)) := by
      simp only [VR]; exact ⟨_, rfl, by rw [← hb]; simp [ByteArray.data_extract, List.map_take]⟩
    obtain ⟨new, h1, h2, h3, h4⟩ := source_ok (P := P) r hv2 hs
    have hn : (b.extract 0 len).size = n := by simpa [Builtin.lenOf] using h1
    have hsz : (b.extract 0 len).size = min len b.size := by simp
    refine ⟨b.size, new, rfl, by rw [nat_min]; omega, ?_, h3, h4⟩
    rw [← h2]
    have e1 : (b.extract 0 n).data = ((b.extract 0 len).extract 0 n).data := by
      have hn' : n = min len b.data.size := by rw [← hn, hsz]; rfl
      simp only [ByteArray.data_extract]
      apply Array.ext'
      simp [hn']
    show (pure _ : Sem (Array Value)).run P.P w = (pure _ : Sem (Array Value)).run P.P w
    rw [e1]
  case nils l c =>
    cases hx.nils
    obtain ⟨new, h1, h2, h3, h4⟩ := source_ok (P := P) r (show VR μ (.nils l c) (.slice none l c) by simp [VR]) hs
    have hn : l = n := by simpa [Builtin.lenOf] using h1
    unfold source at hs
    cases hz : Nat.beq l 0 with
    | false => simp [hz] at hs
    | true =>
      have := Nat.eq_of_beq_eq_true hz
      exact ⟨l, new, rfl, by rw [nat_min]; omega, h2, h3, h4⟩
  case sl b off l c ex =>
    obtain ⟨L, a, c', hL, rfl, hsl⟩ := hx.sl
    have hv2 : VR μ (.sl b off (min l len) c ex) (.slice (some a) (min l len) c') := by
      simp only [VR]
      exact ⟨L, a, c', hL, rfl, hsl.le, hsl.xct, by have := hsl.len; omega, hsl.blk, hsl.spot, hsl.at_, hsl.room⟩
    obtain ⟨new, h1, h2, h3, h4⟩ := source_ok (P := P) r hv2 hs
    have hn : min l len = n := by simpa [Builtin.lenOf] using h1
    exact ⟨l, new, rfl, hn, h2, h3, h4⟩

include ok r in
theorem acopy_ok {t : TypeId} {s x : V} {sv v : Value} (hs : VR μ s sv) (hx : VR μ x v) (ts : Array TypeId) (h0 : ts[0]? = some t) (ty : TypeId) :
    SVal P μ h w (Builtin.copy_ ts ty #[sv, v]) (acopy P h t s x) := by
  unfold acopy
  cases he : elemT P t with
  | none => simp only [he]; trivial
  | some e =>
    cases hz : sizeT P e with
    | none => simp only [he, hz]; trivial
    | some size =>
      simp only [he, hz]
      have hu := run_und ok w (elemT_und he)
      have hsz := run_size ok w hz
      cases s <;> simp only <;> try trivial
      case nils l c =>
        cases hs.nils
        cases hb : Nat.beq l 0 with
        | false => trivial
        | true =>
          have hl := Nat.eq_of_beq_eq_true hb
          subst hl
          simp only [cond_true]
          cases hsrc : source h size (cut x 0) with
          | none => simp only [hsrc]; trivial
          | some q =>
            obtain ⟨cs, n⟩ := q
            simp only [hsrc]
            obtain ⟨m, new, h1, h2, h3, h4, h5⟩ := cut_ok (P := P) r hx hsrc
            rw [nat_min] at h2
            have hn0 : n = 0 := by omega
            subst hn0
            refine ⟨.int .i64 0, w, μ, ?_, Post.refl r, by simp [VR]⟩
            unfold Builtin.copy_
            simp only [h0, List.getElem?_toArray, List.getElem?_cons_zero, List.getElem?_cons_succ, Sem.run_bind, hu, Result.andThen_ok, h1, hsz, nat_min, Nat.min_zero, h3]
            rfl
      case sl b off l c ex =>
        obtain ⟨L, a, c', hL, rfl, hsl⟩ := hs.sl
        cases hsrc : source h size (cut x l) with
        | none => simp only [hsrc]; trivial
        | some q =>
          obtain ⟨cs, n⟩ := q
          simp only [hsrc]
          refine SVal.sel' fun hall => ?_
          obtain ⟨m, new, h1, h2, h3, h4, h5⟩ := cut_ok (P := P) r hx hsrc
          cases hst : h.store b off cs with
          | none => simp only [hst]; trivial
          | some h' =>
            simp only [hst]
            obtain ⟨w', h6, h7⟩ := store_vr P.P r hL hst h4 (allOne_vr h4 hall)
            refine ⟨.int .i64 (n : Int), w', μ, ?_, h7, by simp [VR]⟩
            unfold Builtin.copy_
            simp only [h0, List.getElem?_toArray, List.getElem?_cons_zero, List.getElem?_cons_succ, Sem.run_bind, hu, Result.andThen_ok, h1, hsz, h2, h3]
            rcases hsl.at_ with e0 | e0
            · have hn0 : n = 0 := by have := hsl.len; rw [nat_min] at h2; omega
              have hnew : new.toList = [] := List.eq_nil_of_length_eq_zero (by rw [← h4.length, h5, hn0]; simp)
              rw [hnew] at h6 ⊢
              have hww : w' = w := by
                have : (storeCells ⟨L.blk, L.base + off, none⟩ [] 0).run P.P w = .ok () w := rfl
                rw [this] at h6; exact ((Result.ok.injEq ..).mp h6).2.symm
              rw [hww]; rfl
            · rw [e0, h6]; rfl

theorem amaxG_ok (mx : Bool) {k : IntKind} : ∀ {l : List V} {vs : List Value} {x : Int} {z : V}, amaxG mx k x l = some z → VRs μ l vs →
    ∃ v, (vs.foldlM (if mx then Builtin.max2 else Builtin.min2) (.int k x)).run P.P w = .ok v w ∧ VR μ z v
  | [], vs, x, z, hz, hv => by
    simp only [VRs] at hv; subst hv
    simp only [amaxG, Option.some.injEq] at hz
    subst hz
    exact ⟨.int k x, rfl, by simp [VR]⟩
  | y :: l, vs, x, z, hz, hv => by
    simp only [VRs] at hv
    obtain ⟨u, us, rfl, h1, h2⟩ := hv
    unfold amaxG at hz
    cases y <;> simp only at hz <;> try (cases hz; done)
    rename_i k' n
    cases h1.int
    cases hk : decide (k = k') with
    | false => simp [hk] at hz
    | true =>
      simp only [hk, cond_true] at hz
      have := of_decide_eq_true hk
      subst this
      obtain ⟨v, h3, h4⟩ := amaxG_ok mx hz h2
      refine ⟨v, ?_, h4⟩
      rw [List.foldlM_cons]
      cases mx <;> simp only [Bool.false_eq_true, if_false, if_true, Sem.run_bind, Builtin.max2, Builtin.min2, Sem.run_pure, Result.andThen_ok] <;> exact h3
theorem amax_ok (mx : Bool) {l : List V} {vs : Array Value} {z : V} (hz : amax mx l = some z) (hv : VRs μ l vs.toList) (ts : Array TypeId) (ty : TypeId) :
    ∃ v, ((if mx then Builtin.max_ else Builtin.min_) ts ty vs).run P.P w = .ok v w ∧ VR μ z v := by
  unfold amax at hz
  cases l with
  | nil => simp at hz
  | cons x l =>
    simp only at hz
    cases x <;> simp only at hz <;> try (cases hz; done)
    rename_i k n
    simp only [VRs] at hv
    obtain ⟨u, us, he, h1, h2⟩ := hv
    cases h1.int
    obtain ⟨v, h3, h4⟩ := amaxG_ok (P := P) (w := w) mx hz h2
    refine ⟨v, ?_, h4⟩
    cases mx <;> simp only [Bool.false_eq_true, if_false, if_true, Builtin.max_, Builtin.min_, he] <;> exact h3

/-! ### externs -/
theorem run_loadBytes {P : Program} {w : World} : ∀ (ns : List Int) (a : Addr) (acc : ByteArray), (∀ j, j < ns.length → w.cell? (a.add j) = some (.int .u8 (ns.getD j 0))) →
    (Extern.Bytes.loadBytes a ns.length acc).run P w = .ok (ns.foldl (fun r n => r.push n.toNat.toUInt8) acc) w
  | [], a, acc, _ => rfl
  | n :: ns, a, acc, hc => by
    rw [List.length_cons]
    unfold Extern.Bytes.loadBytes
    have h0 := hc 0 (by simp)
    have ha : a.add 0 = a := by simp [Addr.add]
    rw [ha] at h0
    simp only [Sem.run_bind, run_load, h0, Result.andThen_ok, List.getD_cons_zero]
    rw [run_loadBytes ns (a.add 1) (acc.push n.toNat.toUInt8) fun j hj => ?_]
    · rfl
    · have := hc (j + 1) (by simpa using hj)
      have e1 : (a.add 1).add j = a.add (j + 1) := by
        unfold Addr.add
        by_cases hj0 : j = 0
        · subst hj0; simp
        · simp [hj0]; omega
      rw [e1, this]; simp

include r in
theorem bytesOf_src {x : V} {v : Value} (hx : VR μ x v) {cs : List V} {n : Nat} (hs : source h 1 x = some (cs, n)) {s : List Nat} (hb : bytesOf cs = some s) :
    ∃ b : ByteArray, (Extern.Bytes.bytesOf v).run P.P w = .ok b w ∧ b.data.toList.map UInt8.toNat = s := by
  have hsrc := hs
  unfold source at hs
  cases x <;> simp only at hs <;> try (cases hs; done)
  case str s' =>
    obtain ⟨b, rfl, hb'⟩ := hx.str
    have e11 : Nat.beq 1 1 = true := rfl
    simp only [e11, cond_true, Option.some.injEq, Prod.mk.injEq] at hs
    refine ⟨b, rfl, ?_⟩
    obtain ⟨rfl, _⟩ := hs
    have hall : ∀ l : List Nat, (∀ n ∈ l, n < 256) → bytesOf (u8s l) = some l := by
      intro l
      induction l with
      | nil => intro _; rfl
      | cons a l ih =>
        intro hl
        show opt (V.int? (.int .u8 (.ofNat a))) none (fun p => opt (byte? p.1 p.2) none fun n => opt (bytesOf (u8s l)) none fun r => some (n :: r)) = _
        rw [ih fun n hn => hl n (List.mem_cons_of_mem _ hn)]
        show some (((Int.ofNat a).toNat % 256) :: l) = _
        have := hl a (by simp)
        rw [show (Int.ofNat a).toNat = a from rfl, Nat.mod_eq_of_lt this]
    rw [hall s' fun n hn => by rw [← hb'] at hn; obtain ⟨u, _, rfl⟩ := List.mem_map.1 hn; exact u.toNat_lt] at hb
    cases hb; exact hb'
  case nils l c =>
    cases hx.nils
    cases hz : Nat.beq l 0 with
    | false => simp [hz] at hs
    | true =>
      simp only [hz, cond_true, Option.some.injEq, Prod.mk.injEq] at hs
      obtain ⟨rfl, _⟩ := hs
      cases hb
      exact ⟨.empty, rfl, rfl⟩
  case sl b off l c ex =>
    obtain ⟨L, a, c', hL, rfl, hsl⟩ := hx.sl
    cases hl : h.load b off (l * 1) with
    | none => rw [hl] at hs; cases hs
    | some k =>
      rw [hl] at hs
      simp only [Option.some.injEq, Prod.mk.injEq] at hs
      obtain ⟨rfl, rfl⟩ := hs
      obtain ⟨arr, et, fr, h4, h5, h6, h7⟩ := load_vr r hL hl
      obtain ⟨ns, h8, h9⟩ := bytesOf_vr hb h7
      have hlen : ns.length = l := by
        have := h7.length; rw [h8, h6] at this; simp at this; omega
      refine ⟨ns.foldl (fun r n => r.push n.toNat.toUInt8) .empty, ?_, ?_⟩
      · show (Extern.Bytes.loadBytes a l .empty).run P.P w = _
        rcases hsl.at_ with e0 | e0
        · have hl0 : l = 0 := by have := hsl.len; omega
          have hn0 : ns = [] := List.eq_nil_of_length_eq_zero (by omega)
          subst hn0; subst hl0; rfl
        · rw [← hlen]
          refine run_loadBytes ns a .empty fun j hj => ?_
          rw [e0, add_eq, cell_of h4]
          have h10 : ((arr.extract (L.base + off) (L.base + off + l * 1)).toList)[j]? = some (.int .u8 ns[j]) := by
            rw [h8, List.getElem?_map, List.getElem?_eq_getElem hj]; rfl
          rw [Array.getElem?_toList, Array.getElem?_extract, if_pos (by omega)] at h10
          rw [h10]; simp [List.getD_eq_getElem?_getD, hj]
      · have := foldl_push ns .empty
        rw [h9]
        simpa using this

theorem cmp_nat (a b : ByteArray) : Extern.BytealgCompare.cmp a b = bif eqL (a.data.toList.map UInt8.toNat) (b.data.toList.map UInt8.toNat) then 0 else bif ltL (a.data.toList.map UInt8.toNat) (b.data.toList.map UInt8.toNat) then -1 else 1 := by
  rw [Lib.cmp_eq, eqL_eq, ltL_eq]
  generalize a.data.toList = l
  generalize b.data.toList = k
  have : ∀ l k : List UInt8, Lib.compareBytes l k = if l = k then 0 else if Op.bytesLess l k = true then -1 else 1 := by
    intro l
    induction l with
    | nil => intro k; cases k <;> simp [Lib.compareBytes, Op.bytesLess]
    | cons x l ih =>
      intro k
      cases k with
      | nil => simp [Lib.compareBytes, Op.bytesLess]
      | cons y k =>
        unfold Lib.compareBytes Op.bytesLess
        by_cases h1 : x < y
        · have hne : x ≠ y := fun e => by subst e; exact absurd h1 (UInt8.lt_irrefl x)
          simp [h1, hne]
        · by_cases h2 : y < x
          · have hne : x ≠ y := fun e => by subst e; exact absurd h2 (UInt8.lt_irrefl x)
            simp [h1, h2, hne]
          · have he : x = y := by
              have h3 : ¬ x.toNat < y.toNat := fun e => h1 (UInt8.lt_iff_toNat_lt.2 e)
              have h4 : ¬ y.toNat < x.toNat := fun e => h2 (UInt8.lt_iff_toNat_lt.2 e)
              exact UInt8.toNat_inj.1 (by omega)
            subst he
            simp [h1, ih]
  rw [this]
  by_cases h1 : l = k
  · subst h1; simp
  · have h2 : ¬ l.map UInt8.toNat = k.map UInt8.toNat := fun e => h1 (toNat_inj_list _ _ e)
    simp [h1, h2]

theorem idxB_eq (s : ByteArray) (m : Nat) (hm : m < 256) : idxB m (s.data.toList.map UInt8.toNat) 0 = firstIdx s m.toUInt8 := by
  have key : ∀ (n k : Nat), n + k = s.size → idxB m ((s.data.toList.map UInt8.toNat).drop k) k = match (List.range' k n).find? (fun i => s[i]! == m.toUInt8) with | some i => (i : Int) | none => -1 := by
    intro n
    induction n with
    | zero =>
      intro k hk
      rw [List.drop_of_length_le (by simp; omega)]; rfl
    | succ n ih =>
      intro k hk
      have hlt : k < s.data.size := by rw [show s.data.size = s.size from rfl]; omega
      rw [List.drop_eq_getElem_cons (by simpa using hlt), List.range'_succ, List.find?_cons]
      have hg : s[k]! = s.data[k] := by
        rw [getElem!_pos s k hlt]; rfl
      show sel (Nat.beq _ m) _ _ = _
      simp only [List.getElem_map, Array.getElem_toList]
      rw [hg, beq_nat]
      have hmm : m.toUInt8.toNat = m := by simp; omega
      by_cases h1 : s.data[k].toNat = m
      · have : (s.data[k] == m.toUInt8) = true := by rw [beq_iff_eq]; exact UInt8.toNat_inj.1 (h1.trans hmm.symm)
        simp [h1, this]
      · have : (s.data[k] == m.toUInt8) = false := by
          rw [beq_eq_false_iff_ne]; exact fun e => h1 (by rw [e]; exact hmm)
        simp only [h1, decide_false, sel_false, this]
        exact ih (k + 1) (by omega)
  have := key s.size 0 (by omega)
  rw [List.drop_zero] at this
  rw [this]
  unfold firstIdx
  rw [List.range_eq_range']
  rfl
end
end Ae

namespace Ae
open Go

section
variable {P : Tb} {μ : Mu} {h : H} {w : World} (ok : P.Ok) (r : RR μ h w.heap)

include ok in
theorem run_callFunc_enter {g : Nat} {fn : Func} {c : Code} (hf : P.func? g = some fn) (hb : fn.body = some c) (args : Array Value) : (callFunc g args).run P.P w = .ok (.enter g args) w := by
  unfold callFunc
  have h1 : (fn.name == "runtime.NumGoroutine") = false := by simpa using ok.names g fn hf
  simp only [Sem.run_bind, run_program, Result.andThen_ok, ok.funcs g fn hf, h1, Bool.false_eq_true, if_false, hb, Option.isNone_some, Sem.run_pure]
include ok in
theorem run_callFunc_ext {g : Nat} {fn : Func} {e : Array Value → Sem Value} (hf : P.func? g = some fn) (hb : fn.body = none) (hn : Extern.findNext fn = none) (he : Extern.find fn = some e) (args : Array Value) :
    (callFunc g args).run P.P w = ((e args).run P.P w).andThen fun v w' => .ok (.value v) w' :=
  run_callFunc_extern (ok.funcs g fn hf) (by simpa using ok.names g fn hf) (by rw [hb]; rfl) hn he args w

include r in
theorem extCmp_ok {l : List V} {args : Array Value} (hv : VRs μ l args.toList) {x : V} (hx : extCmp h l = .val x) : ∃ v, (Extern.BytealgCompare.compare args).run P.P w = .ok v w ∧ VR μ x v := by
  unfold extCmp at hx
  split at hx
  · rename_i x1 x2
    simp only [VRs] at hv
    obtain ⟨v1, _, he, h1, v2, _, rfl, h2, rfl⟩ := hv
    have hargs : args = #[v1, v2] := by apply Array.ext'; simpa using he
    subst hargs
    split at hx
    · rename_i a b ha hb
      obtain ⟨c1, n1⟩ := a
      obtain ⟨c2, n2⟩ := b
      split at hx
      · rename_i s1 s2 hs1 hs2
        cases hx
        obtain ⟨b1, h3, h4⟩ := bytesOf_src (P := P) r h1 ha hs1
        obtain ⟨b2, h5, h6⟩ := bytesOf_src (P := P) r h2 hb hs2
        refine ⟨.int .i64 (Extern.BytealgCompare.cmp b1 b2), ?_, ?_⟩
        · change Sem.run P.P (do pure (goInt (Extern.BytealgCompare.cmp (← Extern.Bytes.bytesOf v1) (← Extern.Bytes.bytesOf v2)))) w = _
          simp only [Sem.run_bind, h3, h5, Result.andThen_ok, Sem.run_pure]; rfl
        · rw [cmp_nat, h4, h6]; simp [VR]
      · cases hx
    · cases hx
  · cases hx
theorem extIdx_ok {l : List V} {args : Array Value} (hv : VRs μ l args.toList) {x : V} (hx : extIdx l = .val x) : ∃ v, (Extern.BytealgIndexByte.indexByte args).run P.P w = .ok v w ∧ VR μ x v := by
  unfold extIdx at hx
  split at hx
  · rename_i s c
    simp only [VRs] at hv
    obtain ⟨v1, _, he, h1, v2, _, rfl, h2, rfl⟩ := hv
    obtain ⟨b, rfl, hb⟩ := h1.str
    cases h2.int
    have hargs : args = #[.string b, .int .u8 c] := by apply Array.ext'; simpa using he
    subst hargs
    cases hm : natI c with
    | none => simp [hm] at hx
    | some m =>
      simp only [hm] at hx
      cases hlt : Nat.blt m 256 with
      | false => simp [hlt] at hx
      | true =>
        simp only [hlt, cond_true, R.val.injEq] at hx
        subst hx
        have hm' := natI_some hm
        subst hm'
        refine ⟨_, run_indexByte_string b m w, ?_⟩
        have := idxB_eq b m (Nat.le_of_ble_eq_true hlt)
        rw [hb] at this
        rw [this]; simp [VR]
  · cases hx
theorem extCmp_shape (l : List V) : extCmp h l = .fail ∨ ∃ x, extCmp h l = .val x := by
  unfold extCmp
  split
  · split
    · split
      · exact .inr ⟨_, rfl⟩
      · exact .inl rfl
    · exact .inl rfl
  · exact .inl rfl
theorem extIdx_shape (l : List V) : extIdx l = .fail ∨ ∃ x, extIdx l = .val x := by
  unfold extIdx
  split
  · split
    · rename_i m _; cases Nat.blt m 256
      · exact .inl rfl
      · exact .inr ⟨_, rfl⟩
    · exact .inl rfl
  · exact .inl rfl

include r in
theorem extClone_ok {l : List V} {args : Array Value} (hv : VRs μ l args.toList) : SVal P μ h w (Extern.MapsClone.clone args) (extClone h l) := by
  unfold extClone
  split
  · rename_i t b
    simp only [VRs] at hv
    obtain ⟨v1, _, he, h1, rfl⟩ := hv
    have hargs : args = #[v1] := by apply Array.ext'; simpa using he
    subst hargs
    simp only [VR] at h1
    obtain ⟨v2, rfl, h2⟩ := h1
    obtain ⟨L, hb, rfl⟩ := h2
    cases hm : h.map? b with
    | none => trivial
    | some x =>
      simp only
      have hg : ∃ ver, h.get b = .map ver x.2 := by
        unfold H.map? at hm
        split at hm
        · rename_i ver es hg; cases hm; exact ⟨ver, hg⟩
        · cases hm
      obtain ⟨ver, hg⟩ := hg
      have ho := r.obj b L hb
      rw [hg] at ho
      obtain ⟨ents, clk, h3, h4⟩ := ho
      rw [alloc_eq]
      refine ⟨.iface t (.map (some w.heap.size)), w.alloc (.map ents clk), _, ?_, r.alloc (.map 0 x.2) (.map ents clk) ⟨w.heap.size, 0, 0, 0⟩ rfl (fun _ _ _ _ => by simp) ⟨ents, clk, push_new, h4.mono (r.sub_new _)⟩, ?_⟩
      · change Sem.run P.P (do
          let Obj.map entries clock ← getObj L.blk | stuck "maps.clone: a map expected"
          pure (Value.iface t (.map (some (← newObj (Obj.map entries clock))))) : Sem Value) w = _
        simp only [Sem.run_bind, run_getObj_of h3 (by simp), Result.andThen_ok]
        simp
      · simp only [VR]; exact ⟨_, rfl, _, muNew_same _ _ _, rfl⟩
  · trivial

include ok r in
theorem acall_ok {f : V} {fv : Value} (hf : VR μ f fv) {l : List V} {args : Array Value} (ha : VRs μ l args.toList) : SNext P μ h w (do let d ← Deferred.ofValue fv args; invoke d.target d.args) (acall P h f l) := by
  unfold acall
  cases f <;> simp only <;> try trivial
  case clo g first cap =>
    obtain ⟨xs, ys, rfl, h1, h2⟩ := hf.clo
    have hall : VRs μ (first ++ l ++ cap) (xs ++ args ++ ys).toList := by
      rw [Array.toList_append, Array.toList_append]; exact (h1.app ha).app h2
    have hrun : (do let d ← Deferred.ofValue (.func (.func g) xs ys) args; invoke d.target d.args : Sem Next).run P.P w = (callFunc g (xs ++ args ++ ys)).run P.P w := by
      simp [Deferred.ofValue, invoke]
    cases hfn : P.func? g with
    | none => simp only [hfn]; trivial
    | some fn =>
      simp only [hfn]
      cases hb : fn.body with
      | some c =>
        simp only [hb]
        exact ⟨_, by rw [hrun]; exact run_callFunc_enter ok hfn hb _, hall⟩
      | none =>
        simp only [hb]
        cases hc : Nat.beq g P.cmpF with
        | true =>
          simp only [cond_true]
          have := Nat.eq_of_beq_eq_true hc
          subst this
          obtain ⟨h3, h4⟩ := ok.cmp fn hfn
          rcases extCmp_shape (h := h) (first ++ l ++ cap) with he | ⟨x, he⟩ <;> rw [he]
          · trivial
          · obtain ⟨v, h5, h6⟩ := extCmp_ok (P := P) r hall he
            refine ⟨v, ?_, h6⟩
            rw [hrun, run_callFunc_ext ok hfn hb h3 h4, h5]; rfl
        | false =>
          simp only [cond_false]
          cases hi : Nat.beq g P.idxF with
          | true =>
            simp only [cond_true]
            have := Nat.eq_of_beq_eq_true hi
            subst this
            obtain ⟨h3, h4⟩ := ok.idx fn hfn
            rcases extIdx_shape (first ++ l ++ cap) with he | ⟨x, he⟩ <;> rw [he]
            · trivial
            · obtain ⟨v, h5, h6⟩ := extIdx_ok (P := P) (w := w) hall he
              refine ⟨v, ?_, h6⟩
              rw [hrun, run_callFunc_ext ok hfn hb h3 h4, h5]; rfl
          | false =>
            simp only [cond_false]
            cases hk : Nat.beq g P.clnF with
            | true =>
              simp only [cond_true]
              have := Nat.eq_of_beq_eq_true hk
              subst this
              obtain ⟨h3, h4⟩ := ok.cln fn hfn
              have h7 := extClone_ok (P := P) r hall
              cases hx : extClone h (first ++ l ++ cap) with
              | st v h8 =>
                rw [hx] at h7
                obtain ⟨v', w', μ', h9, h10, h11⟩ := h7
                refine ⟨.value v', w', μ', ?_, h10, .inl ⟨v', rfl, h11⟩⟩
                rw [hrun, run_callFunc_ext ok hfn hb h3 h4, h9]; rfl
              | fail => trivial
              | val v => rw [hx] at h7; obtain ⟨v', h9, h10⟩ := h7; exact ⟨v', by rw [hrun, run_callFunc_ext ok hfn hb h3 h4, h9]; rfl, h10⟩
              | call f a => rw [hx] at h7; exact h7.elim
              | round f a => rw [hx] at h7; exact h7.elim
              | alts l =>
                rw [hx] at h7
                obtain ⟨q, hq, v', w', μ', h9, h10, h11⟩ := h7
                exact ⟨q, hq, .value v', w', μ', by rw [hrun, run_callFunc_ext ok hfn hb h3 h4, h9]; rfl, h10, .inl ⟨v', rfl, h11⟩⟩
            | false => trivial
  case yld b =>
    simp only [VR] at hf
    obtain ⟨L, hb, rfl⟩ := hf
    refine ⟨L, args, hb, ha, ?_⟩
    simp [Deferred.ofValue, invoke]

theorem VRs.nth1 {l : List V} {vs : Array Value} (h : VRs μ l vs.toList) (hl : l.length = 1) : ∃ v, vs = #[v] ∧ VR μ (arg1 l) v := by
  match l, hl with
  | [x], _ =>
    simp only [VRs] at h
    obtain ⟨v, _, he, h1, rfl⟩ := h
    exact ⟨v, by apply Array.ext'; simpa using he, h1⟩
theorem VRs.nth2 {l : List V} {vs : Array Value} (h : VRs μ l vs.toList) (hl : l.length = 2) : ∃ v u, vs = #[v, u] ∧ VR μ (arg1 l) v ∧ VR μ (arg2 l) u := by
  match l, hl with
  | [x, y], _ =>
    simp only [VRs] at h
    obtain ⟨v, _, he, h1, u, _, rfl, h2, rfl⟩ := h
    exact ⟨v, u, by apply Array.ext'; simpa using he, h1, h2⟩
theorem ty1_of {ts : Array TypeId} (h : 1 ≤ ts.size) : ts[0]? = some (ty1 ts.toList) := by
  obtain ⟨l⟩ := ts
  cases l with
  | nil => simp at h
  | cons x l => rfl
theorem ty2_of {ts : Array TypeId} (h : 2 ≤ ts.size) : ts[0]? = some (ty1 ts.toList) ∧ ts[1]? = some (ty2 ts.toList) := by
  obtain ⟨l⟩ := ts
  match l, h with
  | x :: y :: l, _ => exact ⟨rfl, rfl⟩
include ok in
theorem lenS_ok {t : TypeId} {x : V} {v : Value} (hx : VR μ x v) (ts : Array TypeId) (h0 : ts[0]? = some t) (ty : TypeId) : SVal P μ h w (Builtin.len_ ts ty #[v]) (lenS P t x) := by
  cases x <;> try trivial
  case sys l =>
    show SVal P μ h w _ (match P.underlying t with | some .string => R.val (V.int .i64 (l.length : Int)) | _ => R.fail)
    split
    · rename_i hu
      obtain ⟨_, s, rfl, hs⟩ := hx.sys
      have hl : l.length = s.size := by
        have := congrArg List.length hs
        simp at this
        rw [← this]
      exact ⟨.int .i64 (s.size : Int), by simp [Builtin.len_, h0, run_und ok w hu, goInt], by simp [VR, hl]⟩
    · trivial
  case ost e =>
    show SVal P μ h w _ (match P.underlying t with | some .string => R.val (symV .i64 e) | _ => R.fail)
    split
    · rename_i hu
      obtain ⟨o1, s, rfl, hs⟩ := hx.ost
      refine ⟨.int .i64 (s.size : Int), by simp [Builtin.len_, h0, run_und ok w hu, goInt], ?_⟩
      rw [hs]; exact symV_vr o1
    · trivial
  case osl e =>
    show SVal P μ h w _ (bif isSliceT P t then R.val (symV .i64 e) else R.fail)
    cases hm : isSliceT P t with
    | false => trivial
    | true =>
      obtain ⟨e', hu⟩ := isSliceT_und hm
      obtain ⟨o1, a, n, c, rfl, hs⟩ := hx.osl
      refine ⟨.int .i64 (n : Int), by simp [Builtin.len_, h0, run_und ok w hu, goInt], ?_⟩
      rw [hs]; exact symV_vr o1
theorem SVal.natV {s : Sem Value} {o : Option Nat} (hs : ∀ n, o = some n → s.run P.P w = .ok (.int .i64 (n : Int)) w) : SVal P μ h w s (natV o) := by
  cases o with
  | none => trivial
  | some n => exact ⟨_, hs n rfl, by simp [VR]⟩

include ok r in
theorem builtins_ok (b : Builtin) (ts : Array TypeId) (ty : TypeId) (cs : Array Bool) {l : List V} {vs : Array Value} (hv : VRs μ l vs.toList) (hl : lens b ts.toList l = true) :
    SNext P μ h w (builtin b ts ty cs vs) (builtins b P h ts.toList l) := by
  have ar1 : arity b = 1 → l.length = 1 ∧ 1 ≤ ts.size := fun e => by
    unfold lens at hl; rw [e] at hl
    change (sel (Nat.beq l.length 1) (Nat.ble 1 ts.toList.length) false) = true at hl
    cases hb : Nat.beq l.length 1 with
    | false => simp [hb] at hl
    | true => simp [hb] at hl; exact ⟨Nat.eq_of_beq_eq_true hb, hl⟩
  have ar2 : arity b = 2 → l.length = 2 ∧ 2 ≤ ts.size := fun e => by
    unfold lens at hl; rw [e] at hl
    change (sel (Nat.beq l.length 2) (Nat.ble 2 ts.toList.length) false) = true at hl
    cases hb : Nat.beq l.length 2 with
    | false => simp [hb] at hl
    | true => simp [hb] at hl; exact ⟨Nat.eq_of_beq_eq_true hb, hl⟩
  cases b <;> try trivial
  case append =>
    obtain ⟨h1, h2⟩ := ar2 rfl
    obtain ⟨v, u, rfl, h3, h4⟩ := hv.nth2 h1
    obtain ⟨h5, h6⟩ := ty2_of h2
    exact SNext.of_val (aappend_ok ok r h3 h4 ts h5 h6 ty)
  case cap =>
    obtain ⟨h1, h2⟩ := ar1 rfl
    obtain ⟨v, rfl, h3⟩ := hv.nth1 h1
    exact SNext.of_val (SVal.natV fun n hn => acap_ok ok h3 hn ts (ty1_of h2) ty)
  case copy =>
    obtain ⟨h1, h2⟩ := ar2 rfl
    obtain ⟨v, u, rfl, h3, h4⟩ := hv.nth2 h1
    obtain ⟨h5, h6⟩ := ty2_of h2
    exact SNext.of_val (acopy_ok ok r h3 h4 ts h5 ty)
  case len =>
    obtain ⟨h1, h2⟩ := ar1 rfl
    obtain ⟨v, rfl, h3⟩ := hv.nth1 h1
    show SNext P μ h w _ (opt (alen P h (ty1 ts.toList) (arg1 l)) (lenS P (ty1 ts.toList) (arg1 l)) fun n => .val (.int .i64 (n : Int)))
    cases hn : alen P h (ty1 ts.toList) (arg1 l) with
    | some n => exact SNext.of_val ⟨_, alen_ok ok r h3 hn ts (ty1_of h2) ty, by simp [VR]⟩
    | none =>
      simp only [opt_none]
      exact SNext.of_val (lenS_ok ok h3 ts (ty1_of h2) ty)
  case max =>
    exact SNext.of_val (SVal.of fun z hz => amax_ok (P := P) (w := w) true hz hv ts ty)
  case min =>
    exact SNext.of_val (SVal.of fun z hz => amax_ok (P := P) (w := w) false hz hv ts ty)

include ok r in
theorem opCall_ok {a : A} {A' : Act} (ha : AR μ a A') (c : Call) (ty : TypeId) : SNext P μ h w (do let d ← resolve A'.eval c ty; invoke d.target d.args) (opCall c P a h) := by
  have hargs : VRs μ (a.evs c.args.toList) (c.args.map A'.eval).toList := by rw [Array.toList_map]; exact evs_vr ha _
  unfold opCall
  cases hc : c.callee with
  | builtin b =>
    simp only
    cases hl : lens b c.argTypes.toList (a.evs c.args.toList) with
    | false => trivial
    | true =>
      simp only [cond_true]
      have := builtins_ok ok r b c.argTypes ty (c.args.map fun | .const _ => true | _ => false) hargs hl
      unfold resolve
      simp only [hc]
      exact this
  | invoke _ _ => trivial
  | value f =>
    simp only
    have := acall_ok ok r (ev_vr ha f) hargs
    unfold resolve
    simp only [hc]
    exact this

include ok r in
theorem aop_ok {a : A} {A' : Act} (ha : AR μ a A') (o : Oper) : SNext P μ h w (execOp A'.eval o) (aop o.op P a h) := by
  unfold execOp
  cases ho : o.op <;> simp only <;> try trivial
  case move x => exact ⟨_, rfl, ev_vr ha x⟩
  case assign x => exact ⟨_, rfl, ev_vr ha x⟩
  case pick c x y => exact opPick_ok ha c x y
  case alloc t => exact SNext.of_val (opAlloc_ok ok r t a)
  case box t x => exact SNext.of_val (opBox_ok r ha t x)
  case build t ps => exact SNext.of_val (opBuild_ok ok ha t ps)
  case buildSlice t n ps => exact SNext.of_val (opBuildSlice_ok ok r ha t n ps)
  case load t x => exact SNext.of_val (opLoad_ok ok r ha t x)
  case store t x y => exact SNext.of_unit (opStore_ok ok r ha t x y)
  case nilCheck x =>
    show SNext P μ h w _ ((a.ev x).ptrK _)
    rw [ptrK_eq]
    cases he : a.ev x <;> try trivial
    have hx := ev_vr ha x
    rw [he] at hx
    obtain ⟨L, hb, hv⟩ := hx.ptr
    refine ⟨A'.eval x, ?_, hx⟩
    rw [hv]; rfl
  case binOp op t x y u => exact SNext.of_val (abin_ok ok r.pc op t x y (ev_vr ha x) (ev_vr ha y))
  case unOp op t x => exact SNext.of_val (aun_ok r.pc op (ev_vr ha x))
  case convert s d x => exact SNext.of_val (aconv_ok ok r s d (ev_vr ha x))
  case makeInterface t x => exact SNext.of_val (opMkIface_ok ok ha t x)
  case makeFunc fn f c => exact SNext.of_val (opMkFunc_ok ha fn f c)
  case makeMap t x => exact SNext.of_val (opMkMap_ok ok r ha t x)
  case makeSlice t x y => exact SNext.of_val (opMkSlice_ok ok r ha t x y)
  case slice t x lo hi mx => exact SNext.of_val (opSlice_ok ok r ha t x lo hi mx)
  case fieldAddr t x i => exact SNext.of_val (opFieldAddr_ok ok ha t x i)
  case field t x i => exact SNext.of_val (opField_ok ok ha t x i)
  case indexAddr t x y => exact SNext.of_val (opIndexAddr_ok ok ha t x y)
  case index t x y => exact SNext.of_val (opIndex_ok ok ha t x y)
  case lookup t x y k => exact SNext.of_val (opLookup_ok ok r ha t x y k)
  case mapUpdate t m k v => exact SNext.of_unit (opMapUpdate_ok ok r ha t m k v)
  case insert t m k v => exact SNext.of_unit (opMapUpdate_ok ok r ha t m k v)
  case range t x => exact SNext.of_val (opRange_ok ok r ha t x)
  case next it s => exact SNext.of_val (opNext_ok r ha it s o.type)
  case entry it => exact SNext.of_val (opEntry_ok r ha it)
  case typeAssert x s t k => exact SNext.of_val (opTypeAssert_ok ok ha x s t k)
  case extract x i => exact SNext.of_val (opExtract_ok ha x i)
  case call c => exact opCall_ok ok r ha c o.type
end
end Ae

namespace Ae
open Go

/-! ### outcomes -/
theorem M.bind_fail {α β : Type} (f : α → H → M β) : (M.fail : M α).bind f = .fail := rfl
theorem M.bind_one {α β : Type} (a : α) (h : H) (f : α → H → M β) : (M.one a h).bind f = f a h := rfl
theorem M.bind_many {α β : Type} (l : List (α × H)) (f : α → H → M β) : (M.many l).bind f = M.go f l := rfl
theorem M.go_mem {α β : Type} (f : α → H → M β) : ∀ (l : List (α × H)), M.go f l ≠ .fail → ∀ x ∈ l, f x.1 x.2 ≠ .fail ∧ ∀ y ∈ (f x.1 x.2).list, y ∈ (M.go f l).list
  | [], _, x, hx => by simp at hx
  | z :: t, hne, x, hx => by
    unfold M.go at hne ⊢
    cases h1 : f z.1 z.2 with
    | fail => rw [h1] at hne; exact absurd rfl hne
    | one a h =>
      rw [h1] at hne
      cases h2 : M.go f t with
      | fail => rw [h2] at hne; exact absurd rfl hne
      | one a2 h2' =>
        simp only
        rcases List.mem_cons.1 hx with rfl | hx
        · rw [h1]; exact ⟨by simp, fun y hy => List.mem_append_left _ hy⟩
        · obtain ⟨h3, h4⟩ := M.go_mem f t (by rw [h2]; simp) x hx
          exact ⟨h3, fun y hy => List.mem_append_right _ (by rw [← h2]; exact h4 y hy)⟩
      | many l2 =>
        simp only
        rcases List.mem_cons.1 hx with rfl | hx
        · rw [h1]; exact ⟨by simp, fun y hy => List.mem_append_left _ hy⟩
        · obtain ⟨h3, h4⟩ := M.go_mem f t (by rw [h2]; simp) x hx
          exact ⟨h3, fun y hy => List.mem_append_right _ (by rw [← h2]; exact h4 y hy)⟩
    | many l1 =>
      rw [h1] at hne
      cases h2 : M.go f t with
      | fail => rw [h2] at hne; exact absurd rfl hne
      | one a2 h2' =>
        simp only
        rcases List.mem_cons.1 hx with rfl | hx
        · rw [h1]; exact ⟨by simp, fun y hy => List.mem_append_left _ hy⟩
        · obtain ⟨h3, h4⟩ := M.go_mem f t (by rw [h2]; simp) x hx
          exact ⟨h3, fun y hy => List.mem_append_right _ (by rw [← h2]; exact h4 y hy)⟩
      | many l2 =>
        simp only
        rcases List.mem_cons.1 hx with rfl | hx
        · rw [h1]; exact ⟨by simp, fun y hy => List.mem_append_left _ hy⟩
        · obtain ⟨h3, h4⟩ := M.go_mem f t (by rw [h2]; simp) x hx
          exact ⟨h3, fun y hy => List.mem_append_right _ (by rw [← h2]; exact h4 y hy)⟩
/-- a bind that does not fail: its parts do not, and their outcomes are its -/
theorem M.bind_mem {α β : Type} {x : M α} {f : α → H → M β} (hne : x.bind f ≠ .fail) : x ≠ .fail ∧ ∀ p ∈ x.list, f p.1 p.2 ≠ .fail ∧ ∀ y ∈ (f p.1 p.2).list, y ∈ (x.bind f).list := by
  cases x with
  | fail => exact absurd rfl hne
  | one a h =>
    refine ⟨by simp, fun p hp => ?_⟩
    have : p = (a, h) := by simpa [M.list] using hp
    subst this
    exact ⟨hne, fun y hy => hy⟩
  | many l => exact ⟨by simp, fun p hp => M.go_mem f l hne p hp⟩

/-! ### frames -/
theorem AR.put {μ : Mu} {a : A} {A' : Act} (ha : AR μ a A') (d : Option Nat) {v : V} {v' : Value} (hv : VR μ v v') (hd : ∀ t, d = some t → t < A'.tmps.size) : AR μ (a.put d v) (A'.put d v') := by
  cases d with
  | none => exact ha
  | some t =>
    have hA : A.put a (some t) v = ⟨a.tm.set t v, a.df⟩ := by cases a; rfl
    rw [hA]
    refine ⟨fun u x hx => ?_, ha.df⟩
    show VR μ x ((A'.tmps.setIfInBounds t v').getD u undef)
    simp only [T.get_set] at hx
    by_cases hu : u = t
    · subst hu
      rw [if_pos rfl] at hx
      cases hx
      have := hd u rfl
      simp only [Array.getD_eq_getD_getElem?]
      rw [Array.getElem?_setIfInBounds_self_of_lt this]; exact hv
    · rw [if_neg hu] at hx
      have := ha.tm u x hx
      simp only [Array.getD_eq_getD_getElem?] at this ⊢
      rw [Array.getElem?_setIfInBounds_ne (Ne.symm hu)]; exact this
theorem put_size (A' : Act) (d : Option Nat) (v : Value) : (A'.put d v).tmps.size = A'.tmps.size := by
  cases d with
  | none => rfl
  | some t => simp [Act.put]
theorem put_defers (A' : Act) (d : Option Nat) (v : Value) : (A'.put d v).defers = A'.defers := by cases d <;> rfl

/-- which frame -/
def FenceR (μ : Mu) : Option Nat → Fence → Prop
  | none, F => F = Fence.wide
  | some l, F => ∃ L, μ l = some L ∧ F = Fence.wide.inRound L.blk
theorem FenceR.mono {μ μ' : Mu} (hs : Sub μ μ') {rd : Option Nat} {F : Fence} (h : FenceR μ rd F) : FenceR μ' rd F := by
  cases rd with
  | none => exact h
  | some l => obtain ⟨L, h1, h2⟩ := h; exact ⟨L, hs _ _ h1, h2⟩
theorem FenceR.fn {μ : Mu} {rd : Option Nat} {F : Fence} (h : FenceR μ rd F) (f : FuncId) : F.fn f := by
  cases rd with
  | none => rw [show F = Fence.wide from h]; trivial
  | some l => obtain ⟨L, h1, rfl⟩ := h; trivial
theorem FenceR.depth {μ : Mu} {rd : Option Nat} {F : Fence} (h : FenceR μ rd F) : F.depth.isSome = true → 1 ≤ 0 := by
  cases rd with
  | none => rw [show F = Fence.wide from h]; intro h; cases h
  | some l => obtain ⟨L, h1, rfl⟩ := h; intro h; cases h
theorem FenceR.calls {μ : Mu} {rd : Option Nat} {F : Fence} (h : FenceR μ rd F) {P : Program} {f : FuncId} {args : Array Value} {w : World} {R : Ending → World → Prop} (hc : CallsIn Fence.wide 0 P f args w R) : CallsIn F (0 - 1) P f args w R := by
  cases rd with
  | none => rw [show F = Fence.wide from h]; exact hc
  | some l => obtain ⟨L, h1, rfl⟩ := h; exact hc
theorem FenceR.rounds {μ : Mu} {rd : Option Nat} {F : Fence} (h : FenceR μ rd F) {P : Program} {l : Nat} {f : FuncId} {tmps : Array Value} {x y : Code} {w : World} {R : Ending → World → Prop} (hc : RoundIn Fence.wide 0 P l f tmps x y w R) : RoundIn F (0 - 1) P l f tmps x y w R := by
  cases rd with
  | none => rw [show F = Fence.wide from h]; exact hc
  | some l => obtain ⟨L, h1, rfl⟩ := h; exact hc

/-- one more fact is known -/
theorem RR.learn {μ : Mu} {h : H} {w : World} (r : RR μ h w.heap) {b : B} {t : Bool} (o : b.ok μ) (e : b.ev μ = t) : Post μ h w μ (h.assume b t) w := by
  have hn := assume_next b t h
  have hg := assume_get b t h
  refine ⟨⟨fun c L e => by rw [hn]; exact r.dom c L e, r.lt, fun c L e => by rw [hg]; exact r.obj c L e, fun c c' L L' e e' hne l l' => r.sep c c' L L' e e' hne (by rwa [hg] at l) (by rwa [hg] at l'),
    fun c L m ver left cur e hc => ?_, fun c hc => by rw [hg]; exact r.up c (by rwa [hn] at hc), r.zb, assume_ok r.pc o e⟩, fun _ _ => rfl, by rw [hn]; exact Nat.le_refl _, Nat.le_refl _, fun _ _ _ => rfl, fun c L e => .inl ⟨c, L, e, rfl, .inl rfl⟩, fun c _ => hg c, rfl, rfl, rfl⟩
  rw [hg] at hc
  intro Lm since seen stepped hm hi ver' es hgm
  rw [hg] at hgm
  exact r.its c L m ver left cur e hc Lm since seen stepped hm hi ver' es hgm
/-! ### what is to be shown of the three tasks -/
def xExit : X → Exit
  | .norm => .normal
  | .exit id => .exit id
  | .goto l => .goto l
  | .ret => .ret
def CodeQ (μ : Mu) (h : H) (w : World) (n : Nat) (l : List (Res × H)) (e : Exit) (A' : Act) (w' : World) : Prop :=
  ∃ x a h' μ', (Res.code x a, h') ∈ l ∧ e = xExit x ∧ Post μ h w μ' h' w' ∧ AR μ' a A' ∧ A'.tmps.size = n
def ValQ (μ : Mu) (h : H) (w : World) (l : List (V × H)) (e : Ending) (w' : World) : Prop :=
  ∃ v v' h' μ', e = .returned v' ∧ (v, h') ∈ l ∧ Post μ h w μ' h' w' ∧ VR μ' v v'
def resV : List (Res × H) → List (V × H)
  | [] => []
  | x :: l => match x.1 with
    | .val v => (v, x.2) :: resV l
    | _ => resV l
theorem resV_mem {v : V} {h : H} : ∀ {l : List (Res × H)}, (v, h) ∈ resV l ↔ (Res.val v, h) ∈ l
  | [] => by simp [resV]
  | x :: l => by
    obtain ⟨r, h0⟩ := x
    cases r with
    | val u => simp only [resV, List.mem_cons, resV_mem (l := l), Prod.mk.injEq, Res.val.injEq]
    | code x a => simp only [resV, List.mem_cons, resV_mem (l := l), Prod.mk.injEq, reduceCtorEq, false_and, false_or]

structure GoOk (P : Tb) (go : Go) : Prop where
  code : ∀ rd c a h μ A' w F, RR μ h w.heap → AR μ a A' → FenceR μ rd F → codeOk A'.tmps.size c = true → go (.code rd c a) h ≠ .fail →
    c.wpIn F 0 P.P (CodeQ μ h w A'.tmps.size (go (.code rd c a) h).list) A' w
  call : ∀ f args h μ w (args' : Array Value), RR μ h w.heap → VRs μ args args'.toList → go (.call f args) h ≠ .fail →
    CallsIn Fence.wide 0 P.P f args' w (ValQ μ h w (resV (go (.call f args) h).list))
  round : ∀ l L args h μ w (args' : Array Value), μ l = some L → RR μ h w.heap → VRs μ args args'.toList → go (.round l args) h ≠ .fail →
    ∃ fn tmps x y, (Instr.yield L.blk args').run P.P w = .ok (.round L.blk fn tmps x y) w ∧
      RoundIn Fence.wide 0 P.P L.blk fn tmps x y w (ValQ μ h w (resV (go (.round l args) h).list))
def OrcOk (P : Tb) (orc : Orc) : Prop := ∀ f args h m μ w (args' : Array Value), orc f args h = some m → m ≠ .fail → RR μ h w.heap → VRs μ args args'.toList →
  CallsIn Fence.wide 0 P.P f args' w (ValQ μ h w m.list)

/-! ### one operation -/
theorem isVal_list {f : V → H → M A} {m : M Res} (hne : m.bind (isVal f) ≠ .fail) {v : V} {h : H} (hm : (Res.val v, h) ∈ m.list) : f v h ≠ .fail ∧ ∀ y ∈ (f v h).list, y ∈ (m.bind (isVal f)).list :=
  (M.bind_mem hne).2 (Res.val v, h) hm

section
variable {P : Tb} (ok : P.Ok) {orc : Orc} {go : Go} (hgo : GoOk P go) (horc : OrcOk P orc)

theorem wanted_eq {μ : Mu} {a : A} {A' : Act} (ha : AR μ a A') (ops : Array Oper) (o : Oper) (hb : wanted ops a o.guard ≠ .bad) (hsz : ∀ (j t : Nat), (ops[j]?).bind (·.dst) = some t → t < A'.tmps.size) :
    Region.wanted o (yielded ops A'.tmps) = (match wanted ops a o.guard with | .yes => true | _ => false) := by
  unfold Region.wanted
  cases hg : o.guard with
  | none => rfl
  | some q =>
    obtain ⟨j, want⟩ := q
    rw [hg] at hb
    unfold wanted at hb ⊢
    simp only [opt_some] at hb ⊢
    unfold yielded
    cases hd : (ops[j]?).bind (·.dst) with
    | none => rw [hd] at hb; simp
    | some t =>
      rw [hd] at hb
      simp only at hb ⊢
      have ht := hsz j t hd
      have hv := tmp_vr ha.tm t
      have hget : A'.tmps[t]? = some (A'.tmps.getD t undef) := by
        rw [Array.getElem?_eq_getElem ht, Array.getD_eq_getD_getElem?, Array.getElem?_eq_getElem ht]; rfl
      rw [Option.bind_some, hget]
      unfold isBool at hb ⊢
      cases ht2 : a.tmp t <;> rw [ht2] at hb hv <;> simp only at hb ⊢
      case any => exact absurd rfl hb
      case bool c =>
        rw [hv.bool]
        by_cases hcw : c = want
        · subst hcw; simp
        · have h1 : (c == want) = false := by simpa using hcw
          have h2 : (some c == some want) = false := by simpa using hcw
          rw [h1, h2]; rfl
      case int => rw [hv.int]; rfl
      case str => obtain ⟨x, e, _⟩ := hv.str; rw [e]; rfl
      case nilp => rw [hv.nilp]; rfl
      case ptr => obtain ⟨_, _, e⟩ := hv.ptr; rw [e]; rfl
      case nils => rw [hv.nils]; rfl
      case sl => obtain ⟨_, _, _, _, e, _⟩ := hv.sl; rw [e]; rfl
      case nilm => rw [hv.nilm]; rfl
      case mp => obtain ⟨_, _, e⟩ := hv.mp; rw [e]; rfl
      case clo => obtain ⟨_, _, e, _⟩ := hv.clo; rw [e]; rfl
      case yld => simp only [VR] at hv; obtain ⟨_, _, e⟩ := hv; rw [e]; rfl
      case nilf => rw [hv.nilf]; rfl
      case ifc => simp only [VR] at hv; obtain ⟨_, e, _⟩ := hv; rw [e]; rfl
      case nili => have e : A'.tmps.getD t undef = .nilIface := by simpa [VR] using hv
                   rw [e]; rfl
      case agg => obtain ⟨_, e, _⟩ := hv.agg; rw [e]; rfl
      case tup => obtain ⟨_, e, _⟩ := hv.tup; rw [e]; rfl
      case sym => obtain ⟨_, e⟩ := hv.sym; rw [e]; rfl
      case syb => exact absurd rfl hb
      case sys => obtain ⟨_, _, e, _⟩ := hv.sys; rw [e]; rfl
      case ost => obtain ⟨_, _, e, _⟩ := hv.ost; rw [e]; rfl
      case osl => obtain ⟨_, _, _, _, e, _⟩ := hv.osl; rw [e]; rfl

/-- what an operation leaves behind: one of the outcomes -/
def StepQ (μ : Mu) (h : H) (w : World) (A0 : Act) (l : List (A × H)) (A' : Act) (w' : World) : Prop :=
  ∃ a h' μ', (a, h') ∈ l ∧ Post μ h w μ' h' w' ∧ AR μ' a A' ∧ A'.tmps.size = A0.tmps.size

/-- the same, and the frame is as it was but for one place -/
def StepD (μ : Mu) (h : H) (w : World) (A0 : Act) (d : Option Nat) (l : List (A × H)) (A' : Act) (w' : World) : Prop := StepQ μ h w A0 l A' w' ∧ ∃ v, A' = A0.put d v

include ok hgo horc in
theorem finish_ok {μ : Mu} {a : A} {A' : Act} {h : H} {w : World} {F : Fence} {rd : Option Nat} (r : RR μ h w.heap) (ha : AR μ a A') (hF : FenceR μ rd F) (o : Oper) (hd : ∀ t, o.dst = some t → t < A'.tmps.size)
    (hne : finish (aop o.op P a h) P orc go o a h ≠ .fail) (Q : Exit → Act → World → Prop) :
    o.wpIn F 0 P.P A' w (StepD μ h w A' o.dst (finish (aop o.op P a h) P orc go o a h).list) Q := by
  refine ⟨fun f _ => hF.fn f, ?_⟩
  have hsem : (o.semAt F.round A'.eval) = execOp A'.eval o := by
    refine Oper.semAt_eq _ _ _ fun c hc => ?_
    rw [hc] at hne
    exact absurd rfl hne
  rw [hsem]
  have hop := aop_ok ok r ha o
  have fin : ∀ {v : V} {h' : H} {μ' : Mu} {w' : World} {v' : Value} {l : List (A × H)}, Post μ h w μ' h' w' → VR μ' v v' → (a.put o.dst v, h') ∈ l → StepD μ h w A' o.dst l (A'.put o.dst v') w' := by
    intro v h' μ' w' v' l hp hv hm
    exact ⟨⟨_, _, μ', hm, hp, (ha.mono (hp.sub r)).put o.dst hv hd, put_size _ _ _⟩, v', rfl⟩
  have undefVR : ∀ μ' : Mu, VR μ' (.tup []) undef := fun μ' => by simp only [VR, VRs]; exact ⟨#[], rfl, rfl⟩
  cases hr : aop o.op P a h with
  | fail => rw [hr] at hne; exact absurd rfl hne
  | val v =>
    rw [hr] at hop
    obtain ⟨v', h1, h2⟩ := hop
    rw [h1]
    exact fin (Post.refl r) h2 (by show _ ∈ [_]; simp)
  | st v h' =>
    rw [hr] at hop
    obtain ⟨n, w', μ', h1, h2, h3⟩ := hop
    rw [h1]
    rcases h3 with ⟨v', rfl, h4⟩ | ⟨rfl, rfl⟩
    · exact fin h2 h4 (by show _ ∈ [_]; simp)
    · exact fin h2 (undefVR μ') (by show _ ∈ [_]; simp)
  | alts l =>
    rw [hr] at hop
    obtain ⟨q, hq, n, w', μ', h1, h2, h3⟩ := hop
    rw [h1]
    have hmem : ∀ (l : List (V × H)) (q : V × H), q ∈ l → (a.put o.dst q.1, q.2) ∈ mAlts o a l := by
      intro l
      induction l with
      | nil => intro q hq; simp at hq
      | cons x l ih =>
        intro q hq
        rcases List.mem_cons.1 hq with rfl | hq
        · exact List.mem_cons_self
        · exact List.mem_cons_of_mem _ (ih q hq)
    rcases h3 with ⟨v', rfl, h4⟩ | ⟨rfl, e⟩
    · exact fin h2 h4 (hmem l q hq)
    · exact fin h2 (undefVR μ') (by have := hmem l q hq; rw [e] at this; exact this)
  | call f args =>
    rw [hr] at hop hne
    obtain ⟨args', h1, h2⟩ := hop
    rw [h1]
    refine ⟨hF.depth, hF.calls ?_⟩
    change opt (orc f args h) ((go (.call f args) h).bind (isVal (putM o a))) (fun m => m.bind (putM o a)) ≠ .fail at hne
    show CallsIn _ _ _ _ _ _ (fun | .returned v, w'' => StepD μ h w A' o.dst (opt (orc f args h) ((go (.call f args) h).bind (isVal (putM o a))) (fun m => m.bind (putM o a))).list (A'.put o.dst v) w''
                                   | .panicked chain, w'' => Q (.panic chain) A' w'' | .outgrown, _ => LetsOut Q)
    cases ho : orc f args h with
    | some m =>
      rw [ho] at hne
      simp only [opt_some] at hne ⊢
      obtain ⟨hm, hall⟩ := M.bind_mem hne
      refine (horc f args h m μ w args' ho hm r h2).mono fun e w' hq => ?_
      obtain ⟨v, v', h', μ', rfl, hv, hp, hvr⟩ := hq
      exact fin hp hvr ((hall _ hv).2 _ (by show _ ∈ [_]; simp))
    | none =>
      rw [ho] at hne
      simp only [opt_none] at hne ⊢
      obtain ⟨hm, _⟩ := M.bind_mem hne
      refine (hgo.call f args h μ w args' r h2 hm).mono fun e w' hq => ?_
      obtain ⟨v, v', h', μ', rfl, hv, hp, hvr⟩ := hq
      exact fin hp hvr ((isVal_list hne (resV_mem.1 hv)).2 _ (by show _ ∈ [_]; simp))
  | round l args =>
    rw [hr] at hop hne
    obtain ⟨L, args', hL, h1, h2⟩ := hop
    change (go (.round l args) h).bind (isVal (putM o a)) ≠ .fail at hne
    obtain ⟨hm, _⟩ := M.bind_mem hne
    obtain ⟨fn, tmps, x, y, h3, h4⟩ := hgo.round l L args h μ w args' hL r h1 hm
    rw [h2, h3]
    refine ⟨hF.depth, hF.rounds (h4.mono fun e w' hq => ?_)⟩
    obtain ⟨v, v', h', μ', rfl, hv, hp, hvr⟩ := hq
    exact fin hp hvr ((isVal_list hne (resV_mem.1 hv)).2 _ (by show _ ∈ [_]; simp))

include ok hgo horc in
theorem step_ok {μ : Mu} {a : A} {A' : Act} {h : H} {w : World} {F : Fence} {rd : Option Nat} (r : RR μ h w.heap) (ha : AR μ a A') (hF : FenceR μ rd F) (ops : Array Oper) (o : Oper) (hd : ∀ t, o.dst = some t → t < A'.tmps.size)
    (hsz : ∀ (j t : Nat), (ops[j]?).bind (·.dst) = some t → t < A'.tmps.size)
    (hne : step P orc go ops o a h ≠ .fail) (Q : Exit → Act → World → Prop) :
    if Region.wanted o (yielded ops A'.tmps) then o.wpIn F 0 P.P A' w (StepD μ h w A' o.dst (step P orc go ops o a h).list) Q
    else (∀ f, o.about P.P w A'.eval = some f → F.fn f) ∧ StepD μ h w A' o.dst (step P orc go ops o a h).list (A'.put o.dst undef) w := by
  have hbad : wanted ops a o.guard ≠ .bad := fun e => by
    unfold step at hne; rw [e] at hne; exact hne rfl
  rw [wanted_eq ha ops o hbad hsz]
  unfold step at hne ⊢
  cases hw : wanted ops a o.guard with
  | bad => exact absurd hw hbad
  | yes =>
    rw [hw] at hne
    simp only [if_true]
    exact finish_ok ok hgo horc r ha hF o hd hne Q
  | no =>
    simp only [Bool.false_eq_true, if_false]
    refine ⟨fun f _ => hF.fn f, ⟨_, _, μ, List.mem_singleton.2 rfl, Post.refl r, ha.put o.dst (by simp only [VR, VRs]; exact ⟨#[], rfl, rfl⟩) hd, put_size _ _ _⟩, undef, rfl⟩

theorem opsOk_mem {n : Nat} : ∀ {l : List Oper}, opsOk n l = true → ∀ o ∈ l, ∀ t, o.dst = some t → t < n
  | [], _, o, ho, _, _ => by simp at ho
  | x :: l, h, o, ho, t, ht => by
    unfold opsOk at h
    simp only [Bool.and_eq_true] at h
    rcases List.mem_cons.1 ho with rfl | ho
    · rw [ht] at h; exact Nat.le_of_ble_eq_true h.1
    · exact opsOk_mem h.2 o ho t ht
theorem opsOk_at {n : Nat} {ops : Array Oper} (h : opsOk n ops.toList = true) (j t : Nat) (hj : (ops[j]?).bind (·.dst) = some t) : t < n := by
  cases ho : ops[j]? with
  | none => rw [ho] at hj; cases hj
  | some o =>
    rw [ho] at hj
    exact opsOk_mem h o (by rw [← Array.getElem?_toList] at ho; exact List.mem_of_getElem? ho) t hj

theorem conc_ok {μ : Mu} {a : A} {A' : Act} {h : H} {w : World} (r : RR μ h w.heap) (ha : AR μ a A') (ops : Array Oper) (o : Oper) : ∃ a' h', (a', h') ∈ (conc ops o a h).list ∧ Post μ h w μ h' w ∧ AR μ a' A' := by
  have same : ∀ m : M A, m = .one a h → ∃ a' h', (a', h') ∈ m.list ∧ Post μ h w μ h' w ∧ AR μ a' A' := fun m e => by
    subst e; exact ⟨a, h, List.mem_singleton.2 rfl, Post.refl r, ha⟩
  have set : ∀ (t : Nat) (v : Bool), A'.tmps.getD t undef = .bool v → AR μ (a.put (some t) (.bool v)) A' := fun t v e =>
    ⟨fun t' x hx => by
      have hx : T.get (T.set a.tm t (.bool v)) t' = some x := by cases a; exact hx
      rw [T.get_set] at hx
      split at hx
      · rename_i htt; cases hx; rw [htt, e]; simp [VR]
      · exact ha.tm t' x hx, by cases a; exact ha.df⟩
  unfold conc
  cases o.guard with
  | none => exact same _ rfl
  | some q =>
    simp only [opt_some]
    cases (ops[q.1]?).bind (·.dst) with
    | none => exact same _ rfl
    | some t =>
      simp only [opt_some]
      have hv := tmp_vr ha.tm t
      cases ht : a.tmp t <;> try exact same _ rfl
      rename_i b
      rw [ht] at hv
      obtain ⟨o1, hv⟩ := hv.syb
      unfold concT
      simp only
      cases hd : decB h.pc b with
      | some v =>
        simp only
        refine ⟨_, _, List.mem_singleton.2 rfl, Post.refl r, set t v ?_⟩
        rw [hv, decB_ok r.pc hd]
      | none =>
        simp only
        cases he : b.ev μ
        · exact ⟨_, _, List.mem_cons_of_mem _ (List.mem_singleton.2 rfl), r.learn o1 he, set t false (by rw [hv, he])⟩
        · exact ⟨_, _, List.mem_cons_self .., r.learn o1 he, set t true (by rw [hv, he])⟩
include ok hgo horc in
theorem runOps_ok {μ0 : Mu} {h0 : H} {w0 : World} (r0 : RR μ0 h0 w0.heap) (ops : Array Oper) {rd : Option Nat} {F : Fence} (hF : FenceR μ0 rd F) {n : Nat} (hops : opsOk n ops.toList = true) {full : List (A × H)} {Q : Exit → Act → World → Prop}
    (hQ : ∀ a h μ A' w, (a, h) ∈ full → Post μ0 h0 w0 μ h w → AR μ a A' → A'.tmps.size = n → Q .normal A' w) :
    ∀ (l : List Oper) (a : A) (h : H) (μ : Mu) (A' : Act) (w : World), (∀ o ∈ l, ∀ t, o.dst = some t → t < n) → Post μ0 h0 w0 μ h w → AR μ a A' → A'.tmps.size = n →
      runOps l P orc go ops a h ≠ .fail → (∀ y ∈ (runOps l P orc go ops a h).list, y ∈ full) → wpListIn F 0 P.P ops Q l A' w
  | [], a, h, μ, A', w, _, hp, ha, hn, _, hfull => hQ a h μ A' w (hfull _ (List.mem_singleton.2 rfl)) hp ha hn
  | o :: l, a, h, μ, A', w, hl, hp, ha, hn, hne, hfull => by
    change (conc ops o a h).bind (fun a h => (step P orc go ops o a h).bind (runOps l P orc go ops)) ≠ .fail at hne
    change ∀ y ∈ ((conc ops o a h).bind fun a h => (step P orc go ops o a h).bind (runOps l P orc go ops)).list, y ∈ full at hfull
    obtain ⟨a2, h2, hm2, hp2, ha2⟩ := conc_ok hp.rr ha ops o
    obtain ⟨_, hall2⟩ := M.bind_mem hne
    obtain ⟨hne2, hin2⟩ := hall2 _ hm2
    replace hfull : ∀ y ∈ ((step P orc go ops o a2 h2).bind (runOps l P orc go ops)).list, y ∈ full := fun y hy => hfull y (hin2 y hy)
    replace hne : (step P orc go ops o a2 h2).bind (runOps l P orc go ops) ≠ .fail := hne2
    replace hp := hp.trans hp2
    replace ha := ha2
    clear hin2 hne2 hall2 hm2 hp2 ha2
    generalize a2 = a at *
    generalize h2 = h at *
    obtain ⟨hs, hall⟩ := M.bind_mem hne
    have hstep := step_ok ok hgo horc hp.rr ha (hF.mono (hp.sub r0)) ops o (fun t ht => by rw [hn]; exact hl o (by simp) t ht) (fun j t hj => by rw [hn]; exact opsOk_at hops j t hj) hs Q
    have next : ∀ A'' w'', StepD μ h w A' o.dst (step P orc go ops o a h).list A'' w'' → wpListIn F 0 P.P ops Q l A'' w'' := by
      intro A'' w'' ⟨⟨a1, h1, μ1, hm, hp1, ha1, hsz1⟩, _⟩
      obtain ⟨h3, h4⟩ := hall _ hm
      exact runOps_ok r0 ops hF hops hQ l a1 h1 μ1 A'' w'' (fun o' ho' => hl o' (List.mem_cons_of_mem _ ho')) (hp.trans hp1) ha1 (hsz1.trans hn) h3 fun y hy => hfull y (h4 y hy)
    show if _ then _ else _
    split
    · rename_i hw
      rw [if_pos hw] at hstep
      exact Oper.wpIn_mono next hstep
    · rename_i hw
      rw [if_neg hw] at hstep
      exact ⟨hstep.1, next _ _ hstep.2⟩
end
end Ae

namespace Ae
open Go

theorem opsOk_mono {n m : Nat} (h : n ≤ m) : ∀ {l : List Oper}, opsOk n l = true → opsOk m l = true
  | [], _ => rfl
  | o :: l, hl => by
    unfold opsOk at hl ⊢
    simp only [Bool.and_eq_true] at hl ⊢
    refine ⟨?_, opsOk_mono h hl.2⟩
    cases ho : o.dst with
    | none => rfl
    | some t =>
      rw [ho] at hl
      have h1 : t + 1 ≤ n := Nat.le_of_ble_eq_true hl.1
      exact Nat.ble_eq_true_of_le (Nat.le_trans h1 h)
theorem codeOk_mono {n m : Nat} (h : n ≤ m) (c : Code) (hc : codeOk n c = true) : codeOk m c = true := by
  induction c with
  | region _ _ _ => exact opsOk_mono h hc
  | seq x y ihx ihy =>
    simp only [codeOk, Bool.and_eq_true] at hc ⊢
    exact ⟨ihx hc.1, ihy hc.2⟩
  | cond _ x y ihx ihy =>
    simp only [codeOk, Bool.and_eq_true] at hc ⊢
    exact ⟨ihx hc.1, ihy hc.2⟩
  | block _ c ih => simp only [codeOk] at hc ⊢; exact ih hc
  | loop c ih => simp only [codeOk] at hc ⊢; exact ih hc
  | rangeFunc _ ps x y ihx ihy =>
    simp only [codeOk, Bool.and_eq_true, List.all_eq_true] at hc ⊢
    refine ⟨⟨fun t ht => ?_, ihx hc.1.2⟩, ihy hc.2⟩
    have h1 : t + 1 ≤ n := Nat.le_of_ble_eq_true (hc.1.1 t ht)
    exact Nat.ble_eq_true_of_le (Nat.le_trans h1 h)
  | _ => rfl

/-! ### what a piece leaves, seen from further back -/
theorem CodeQ.back {μ μ' : Mu} {h h' : H} {w w' : World} (r : Post μ h w μ' h' w') {n : Nat} {l l' : List (Res × H)} (hl : ∀ y ∈ l', y ∈ l) {e : Exit} {A' : Act} {w2 : World} (q : CodeQ μ' h' w' n l' e A' w2) : CodeQ μ h w n l e A' w2 := by
  obtain ⟨x, a, h2, μ2, h3, h4, h5, h6, h7⟩ := q
  exact ⟨x, a, h2, μ2, hl _ h3, h4, r.trans h5, h6, h7⟩

/-- the least that has it -/
theorem least {p : Nat → Prop} (h : ∃ n, p n) : ∃ n, p n ∧ ∀ m, m < n → ¬ p m := by
  obtain ⟨n, hn⟩ := h
  induction n using Nat.strongRecOn with
  | _ n ih =>
    by_cases hx : ∃ m, m < n ∧ p m
    · obtain ⟨m, h1, h2⟩ := hx; exact ih m h1 h2
    · exact ⟨n, hn, fun m hm hp => hx ⟨m, hm, hp⟩⟩
open Classical in
noncomputable def leastOf (p : Nat → Prop) : Nat := if h : ∃ n, p n then Classical.choose (least h) else 0
theorem leastOf_spec {p : Nat → Prop} (h : ∃ n, p n) : p (leastOf p) := by
  unfold leastOf; rw [dif_pos h]; exact (Classical.choose_spec (least h)).1
theorem leastOf_le {p : Nat → Prop} {n : Nat} (h : p n) : leastOf p ≤ n := by
  unfold leastOf; rw [dif_pos ⟨n, h⟩]
  exact Nat.le_of_not_lt fun hlt => (Classical.choose_spec (least ⟨n, h⟩)).2 n hlt h

/-- regions that draw their order: shown elsewhere -/
def DrawOk (P : Tb) (orc : Orc) : Prop := ∀ go, GoOk P go → ∀ (ops : Array Oper) (l : List Pl) a h μ A' w F rd id, drawPlan ops = some l → RR μ h w.heap → AR μ a A' → FenceR μ rd F → opsOk A'.tmps.size ops.toList = true →
  runDraw l P orc go ops [] a h ≠ .fail →
  (Code.region id ops true).wpIn F 0 P.P (fun e A'' w'' => e = .normal ∧ StepQ μ h w A' (runDraw l P orc go ops [] a h).list A'' w'') A' w

section
variable {P : Tb} (ok : P.Ok) {orc : Orc} (horc : OrcOk P orc) (hdraw : DrawOk P orc)

theorem thenCode_list {go : Go} {rd : Option Nat} {c : Code} {r : Res} {h : H} (x : X) (a : A) (hr : r = .code x a) :
    thenCode go rd c r h = match x with | .norm => go (.code rd c a) h | x => .one (.code x a) h := by
  subst hr; cases x <;> rfl

theorem getLoop_run {P : Program} {w : World} {l : Nat} {rec : Loop} (h : w.heap[l]? = some (.loop rec)) : (Instr.getLoop l).run P w = .ok rec w := by
  unfold Instr.getLoop
  simp [run_getObj_of h (by simp)]
theorem resolve_range (ρ : Operand → Value) (f : Operand) (l : Nat) (hc : ρ (.const (.func (.yield l) #[] #[])) = .func (.yield l) #[] #[]) : resolve ρ (Go.rangeCall f l) 0 = Deferred.ofValue (ρ f) #[.func (.yield l) #[] #[]] := by
  have : (#[Operand.const (.func (.yield l) #[] #[])].map ρ) = #[.func (.yield l) #[] #[]] := by simp [hc]
  show Deferred.ofValue (ρ f) (#[Operand.const (.func (.yield l) #[] #[])].map ρ) = _
  rw [this]
theorem VRs.one' {μ : Mu} {x : V} {v : Value} (h : VR μ x v) : VRs μ [x] [v] := by simp only [VRs]; exact ⟨v, [], rfl, h, rfl⟩

/-- the state of a record is set -/
theorem fork_mem {α : Type} {x y : M α} (h : fork x y ≠ .fail) : x ≠ .fail ∧ y ≠ .fail ∧ (∀ z ∈ x.list, z ∈ (fork x y).list) ∧ ∀ z ∈ y.list, z ∈ (fork x y).list := by
  have key : x ≠ .fail ∧ y ≠ .fail → (fork x y).list = x.list ++ y.list := fun ⟨h1, h2⟩ => by
    cases x <;> first | exact absurd rfl h1 | (cases y <;> first | exact absurd rfl h2 | rfl)
  have hn : x ≠ .fail ∧ y ≠ .fail := by
    refine ⟨fun e => h (by rw [e]; rfl), fun e => h ?_⟩
    rw [e]; cases x <;> rfl
  refine ⟨hn.1, hn.2, fun z hz => ?_, fun z hz => ?_⟩ <;> rw [key hn]
  · exact List.mem_append_left _ hz
  · exact List.mem_append_right _ hz
theorem RR.setLoop {μ : Mu} {h : H} {w : World} (r : RR μ h w.heap) {l : Nat} {L : Loc} (hl : μ l = some L) {st : LoopState} {pend : Option Code} {tm : T V} {ps : List Nat} {asg b : Code} {df : Nat}
    (hg : h.get l = .loop st pend tm ps asg b df) : ∃ rec : Loop, w.heap[L.blk]? = some (.loop rec) ∧ rec.state = st ∧ rec.pending = pend ∧ rec.params = ps.toArray ∧ rec.assign = asg ∧ rec.body = b ∧ TR μ tm rec.tmps ∧
      (∃ Ld, μ df = some Ld ∧ rec.defers = Ld.blk) ∧ codeOk rec.tmps.size asg = true ∧ codeOk rec.tmps.size b = true ∧ (∀ p ∈ ps, p < rec.tmps.size) ∧
      ∀ st' pend', Post μ h w μ (h.put l (.loop st' pend' tm ps asg b df)) (setBlk w L.blk (.loop { rec with state := st', pending := pend' })) := by
  have ho := r.obj l L hl
  rw [hg] at ho
  obtain ⟨fn, tmps, D, h1, h2, h3, h4, h5, h6⟩ := ho
  have hlt := r.lt l L hl
  refine ⟨_, h1, rfl, rfl, rfl, rfl, rfl, h2, h3, h4, h5, h6, fun st' pend' => ?_⟩
  refine r.putObj hl (by rw [hg]; rfl) (by rw [hg]; rfl) _ ⟨fn, tmps, D, setBlk_same hlt, h2, h3, h4, h5, h6⟩ (fun _ _ _ _ e => by cases e) ?_ setBlk_size (fun c hc => setBlk_other hc) rfl rfl rfl
  intro c' L1 ver left cur hc1 hcb hgc hold Lm since seen stepped hmu hi ver2 es2 hgm
  rw [H.get_put, if_pos rfl] at hgm; cases hgm

/-- the one call of a range over a function -/
theorem rangeCall_ok (ok : P.Ok) {go : Go} (hgo : GoOk P go) {rd : Option Nat} {f : V} {fv : Value} {l : Nat} {L : Loc} {a : A} {A' : Act} {h : H} {w : World} {μ : Mu} {F : Fence} (r : RR μ h w.heap) (hl : μ l = some L) (ha : AR μ a A')
    (hF : FenceR μ rd F) (hf : VR μ f fv) (hne : Ae.rangeCall P go rd f l a h ≠ .fail) :
    ∃ d g args, (Deferred.ofValue fv #[.func (.yield L.blk) #[] #[]]).run P.P w = .ok d w ∧ (invoke d.target d.args).run P.P w = .ok (.enter g args) w ∧
      CallsIn Fence.wide 0 P.P g args w (rangePost F 0 P.P L.blk (CodeQ μ h w A'.tmps.size (Ae.rangeCall P go rd f l a h).list) A') := by
  unfold Ae.rangeCall at hne ⊢
  cases f <;> simp only at hne <;> try (exact absurd rfl hne)
  rename_i g first cap
  obtain ⟨xs, ys, rfl, h1, h2⟩ := hf.clo
  simp only
  cases hfn : P.func? g with
  | none => rw [hfn] at hne; exact absurd rfl hne
  | some fn =>
    rw [hfn] at hne
    simp only at hne ⊢
    cases hb : fn.body with
    | none => rw [hb] at hne; exact absurd rfl hne
    | some c =>
      rw [hb] at hne
      simp only at hne ⊢
      have hargs : VRs μ (first ++ [.yld l] ++ cap) (xs ++ #[Value.func (.yield L.blk) #[] #[]] ++ ys).toList := by
        rw [Array.toList_append, Array.toList_append]
        exact (h1.app (VRs.one' (by simp only [VR]; exact ⟨L, hl, rfl⟩))).app h2
      refine ⟨_, g, xs ++ #[Value.func (.yield L.blk) #[] #[]] ++ ys, rfl, ?_, ?_⟩
      · show (callFunc g _).run P.P w = _
        exact run_callFunc_enter ok hfn hb _
      · obtain ⟨hm, hall⟩ := M.bind_mem hne
        refine (hgo.call g _ h μ w _ r hargs hm).mono fun e w3 hq => ?_
        obtain ⟨v, v', h', μ', rfl, hv, hp, hvr⟩ := hq
        obtain ⟨h3, h4⟩ := hall _ (resV_mem.1 hv)
        have hl' : μ' l = some L := by rw [hp.ext l (r.dom l L hl)]; exact hl
        simp only at h3 h4
        unfold endRange at h3 h4
        cases hg : h'.get l with
        | loop st pend tm ps asg b df =>
          rw [hg] at h3 h4
          simp only at h3 h4
          obtain ⟨rec, k1, k2, k3, k4, k5, k6, k7, k8, k9, k10, k11, k12⟩ := hp.rr.setLoop hl' hg
          have hst : st ≠ .busy := fun e => by subst e; exact h3 rfl
          have hend : (Instr.endLoop L.blk).run P.P w3 = .ok pend (setBlk w3 L.blk (.loop { rec with state := .exhausted, pending := pend })) := by
            unfold Instr.endLoop
            have hs : (rec.state == LoopState.busy) = false := by rw [k2]; cases st <;> first | rfl | exact absurd rfl hst
            simp only [Sem.run_bind, getLoop_run k1, Result.andThen_ok, hs, Bool.false_eq_true, if_false, run_setObj_of k1 (by simp), Sem.run_pure, k3]

          have hp2 := hp.trans (k12 .exhausted pend)
          have hs2 := hp2.sub r
          cases pend with
          | none =>
            refine ⟨none, _, hend, ?_⟩
            have hl4 : ∀ y ∈ (M.one (Res.code .norm a) (h'.put l (.loop .exhausted none tm ps asg b df))).list, y ∈ ((go (.call g (first ++ [.yld l] ++ cap)) h).bind (endRange go rd l a)).list := by
              intro y hy
              apply h4
              cases st <;> first | exact hy | exact absurd rfl hst
            exact ⟨.norm, a, _, μ', hl4 _ (List.mem_singleton.2 rfl), rfl, hp2, ha.mono hs2, rfl⟩
          | some c0 =>
            refine ⟨some c0, _, hend, ?_⟩
            simp only
            have h3' : sel (jumpOk c0) (go (.code rd c0 a) (h'.put l (.loop .exhausted (some c0) tm ps asg b df))) .fail ≠ .fail := by
              cases st <;> first | exact h3 | exact absurd rfl hst
            have h4' : ∀ y ∈ (sel (jumpOk c0) (go (.code rd c0 a) (h'.put l (.loop .exhausted (some c0) tm ps asg b df))) .fail).list, y ∈ ((go (.call g (first ++ [.yld l] ++ cap)) h).bind (endRange go rd l a)).list := by
              intro y hy
              apply h4
              cases st <;> first | exact hy | exact absurd rfl hst
            cases hj : jumpOk c0 with
            | false => rw [hj] at h3'; exact absurd rfl h3'
            | true =>
              rw [hj] at h3' h4'
              simp only [sel_true] at h3' h4'
              have hcok : codeOk A'.tmps.size c0 = true := by cases c0 <;> first | rfl | (cases hj)
              refine wpIn_mono (hgo.code rd c0 a _ μ' A' _ F hp2.rr (ha.mono hs2) (hF.mono hs2) hcok h3') fun e A2 w2 hq => hq.back hp2 h4'
        | _ => rw [hg] at h3; exact absurd rfl h3

include ok horc hdraw in
/-- code, one step of fuel more; a loop apart -/
theorem code_ok {go : Go} (hgo : GoOk P go) (rd : Option Nat) (c : Code) (a : A) (h : H) (μ : Mu) (A' : Act) (w : World) (F : Fence) (r : RR μ h w.heap) (ha : AR μ a A') (hF : FenceR μ rd F)
    (hc : codeOk A'.tmps.size c = true) (hne : runCode c P orc go rd a h ≠ .fail) (hloop : ∀ b, c ≠ .loop b) :
    c.wpIn F 0 P.P (CodeQ μ h w A'.tmps.size (runCode c P orc go rd a h).list) A' w := by
  have here : ∀ {l : List (Res × H)} (x : X), (Res.code x a, h) ∈ l → CodeQ μ h w A'.tmps.size l (xExit x) A' w := fun x hm => ⟨x, a, h, μ, hm, rfl, Post.refl r, ha, rfl⟩
  cases c with
  | skip => exact wpIn_skip (here .norm (List.mem_singleton.2 rfl))
  | label l => exact wpIn_label (here .norm (List.mem_singleton.2 rfl))
  | exit id => exact wpIn_exit (here (.exit id) (List.mem_singleton.2 rfl))
  | goto l => exact wpIn_goto (here (.goto l) (List.mem_singleton.2 rfl))
  | ret => exact wpIn_ret (here .ret (List.mem_singleton.2 rfl))
  | scope c => exact absurd rfl hne
  | refuse s => exact absurd rfl hne
  | loop b => exact absurd rfl (hloop b)
  | region id ops draw =>
    cases draw with
    | false =>
      change (runOps ops.toList P orc go ops a h).bind normOf ≠ .fail at hne
      change (Code.region id ops false).wpIn F 0 P.P (CodeQ μ h w A'.tmps.size ((runOps ops.toList P orc go ops a h).bind normOf).list) A' w
      obtain ⟨h1, h2⟩ := M.bind_mem hne
      refine wpIn_region_list ?_
      refine runOps_ok ok hgo horc r ops hF hc (full := (runOps ops.toList P orc go ops a h).list) ?_ ops.toList a h μ A' w (fun o ho t ht => opsOk_mem hc o ho t ht) (Post.refl r) ha rfl h1 (fun y hy => hy)
      intro a1 h1' μ1 A1 w1 hm hp ha1 hsz
      exact ⟨.norm, a1, h1', μ1, (h2 _ hm).2 _ (List.mem_singleton.2 rfl), rfl, hp, ha1, hsz⟩
    | true =>
      change opt (drawPlan ops) .fail (fun l => (runDraw l P orc go ops [] a h).bind normOf) ≠ .fail at hne
      change (Code.region id ops true).wpIn F 0 P.P (CodeQ μ h w A'.tmps.size (opt (drawPlan ops) .fail (fun l => (runDraw l P orc go ops [] a h).bind normOf)).list) A' w
      cases hpl : drawPlan ops with
      | none => rw [hpl] at hne; exact absurd rfl hne
      | some l =>
        rw [hpl] at hne
        simp only [opt_some] at hne ⊢
        obtain ⟨h1, h2⟩ := M.bind_mem hne
        refine wpIn_mono (hdraw go hgo ops l a h μ A' w F rd id hpl r ha hF hc h1) fun e A1 w1 hq => ?_
        obtain ⟨rfl, a1, h1', μ1, hm, hp, ha1, hsz⟩ := hq
        exact ⟨.norm, a1, h1', μ1, (h2 _ hm).2 _ (List.mem_singleton.2 rfl), rfl, hp, ha1, hsz⟩
  | seq x y =>
    change (go (.code rd x a) h).bind (thenCode go rd y) ≠ .fail at hne
    change (Code.seq x y).wpIn F 0 P.P (CodeQ μ h w A'.tmps.size ((go (.code rd x a) h).bind (thenCode go rd y)).list) A' w
    simp only [codeOk, Bool.and_eq_true] at hc
    obtain ⟨h1, h2⟩ := M.bind_mem hne
    refine wpIn_seq (wpIn_mono (hgo.code rd x a h μ A' w F r ha hF hc.1 h1) fun e A1 w1 hq => ?_)
    obtain ⟨x1, a1, h1', μ1, hm, rfl, hp, ha1, hsz⟩ := hq
    obtain ⟨h3, h4⟩ := h2 _ hm
    have he := thenCode_list (go := go) (rd := rd) (c := y) (h := h1') x1 a1 rfl
    rw [he] at h3 h4
    cases x1 with
    | norm =>
      refine wpIn_mono (hgo.code rd y a1 h1' μ1 A1 w1 F hp.rr ha1 (hF.mono (hp.sub r)) (by rw [hsz]; exact hc.2) h3) fun e A2 w2 hq => ?_
      rw [hsz] at hq
      exact hq.back hp h4
    | exit id => exact ⟨.exit id, a1, h1', μ1, h4 _ (List.mem_singleton.2 rfl), rfl, hp, ha1, hsz⟩
    | goto l => exact ⟨.goto l, a1, h1', μ1, h4 _ (List.mem_singleton.2 rfl), rfl, hp, ha1, hsz⟩
    | ret => exact ⟨.ret, a1, h1', μ1, h4 _ (List.mem_singleton.2 rfl), rfl, hp, ha1, hsz⟩
  | cond c x y =>
    change opt (a.ev c).bool? (opt (a.ev c).syb? .fail fun b => opt (decB h.pc b) (fork (go (.code rd x a) (h.assume b true)) (go (.code rd y a) (h.assume b false))) fun t => go (.code rd (sel t x y) a) h) (fun t => go (.code rd (sel t x y) a) h) ≠ .fail at hne
    change (Code.cond c x y).wpIn F 0 P.P (CodeQ μ h w A'.tmps.size (opt (a.ev c).bool? (opt (a.ev c).syb? .fail fun b => opt (decB h.pc b) (fork (go (.code rd x a) (h.assume b true)) (go (.code rd y a) (h.assume b false))) fun t => go (.code rd (sel t x y) a) h) (fun t => go (.code rd (sel t x y) a) h)).list) A' w
    simp only [codeOk, Bool.and_eq_true] at hc
    cases hb : (a.ev c).bool? with
    | none =>
      rw [hb] at hne
      simp only [opt_none] at hne ⊢
      cases hs : (a.ev c).syb? with
      | none => rw [hs] at hne; exact absurd rfl hne
      | some b =>
        rw [hs] at hne
        simp only [opt_some] at hne ⊢
        have hv := ev_vr ha c
        have hev : a.ev c = .syb b := by
          cases he : a.ev c <;> rw [he] at hs <;> simp [V.syb?] at hs
          rw [hs]
        rw [hev] at hv
        obtain ⟨o1, hv⟩ := hv.syb
        refine wpIn_cond hv ?_
        cases hd : decB h.pc b with
        | some t =>
          rw [hd] at hne
          simp only [opt_some] at hne ⊢
          rw [decB_ok r.pc hd]
          cases t
          · exact hgo.code rd y a h μ A' w F r ha hF hc.2 hne
          · exact hgo.code rd x a h μ A' w F r ha hF hc.1 hne
        | none =>
          rw [hd] at hne
          simp only [opt_none] at hne ⊢
          obtain ⟨n1, n2, f1, f2⟩ := fork_mem hne
          cases he : b.ev μ
          · have hp := r.learn o1 he
            exact wpIn_mono (hgo.code rd y a _ μ A' w F hp.rr ha hF hc.2 n2) fun e A2 w2 hq => hq.back hp f2
          · have hp := r.learn o1 he
            exact wpIn_mono (hgo.code rd x a _ μ A' w F hp.rr ha hF hc.1 n1) fun e A2 w2 hq => hq.back hp f1
    | some t =>
      rw [hb] at hne
      simp only [opt_some] at hne ⊢
      have hv := ev_vr ha c
      rw [V.bool?_some hb] at hv
      refine wpIn_cond hv.bool ?_
      cases t
      · exact hgo.code rd y a h μ A' w F r ha hF hc.2 hne
      · exact hgo.code rd x a h μ A' w F r ha hF hc.1 hne
  | block id b =>
    change (go (.code rd b a) h).bind (outOf id) ≠ .fail at hne
    change (Code.block id b).wpIn F 0 P.P (CodeQ μ h w A'.tmps.size ((go (.code rd b a) h).bind (outOf id)).list) A' w
    simp only [codeOk] at hc
    obtain ⟨h1, h2⟩ := M.bind_mem hne
    refine wpIn_block (wpIn_mono (hgo.code rd b a h μ A' w F r ha hF hc h1) fun e A1 w1 hq => ?_)
    obtain ⟨x1, a1, h1', μ1, hm, rfl, hp, ha1, hsz⟩ := hq
    have h4 := (h2 _ hm).2
    cases x1 with
    | norm => exact ⟨.norm, a1, h1', μ1, h4 _ (List.mem_singleton.2 rfl), rfl, hp, ha1, hsz⟩
    | exit i =>
      change ∀ y ∈ (M.one (Res.code (sel (Nat.beq i id) .norm (.exit i)) a1) h1').list, _ at h4
      show Exit.inBlock id _ (.exit i) A1 w1
      unfold Exit.inBlock
      simp only
      by_cases hi : i = id
      · subst hi
        rw [if_pos rfl]
        simp only [Nat.beq_refl, sel_true] at h4
        exact ⟨.norm, a1, h1', μ1, h4 _ (List.mem_singleton.2 rfl), rfl, hp, ha1, hsz⟩
      · rw [if_neg hi]
        have : Nat.beq i id = false := by
          cases e : Nat.beq i id with
          | false => rfl
          | true => exact absurd (Nat.eq_of_beq_eq_true e) hi
        rw [this, sel_false] at h4
        exact ⟨.exit i, a1, h1', μ1, h4 _ (List.mem_singleton.2 rfl), rfl, hp, ha1, hsz⟩
    | goto l => exact ⟨.goto l, a1, h1', μ1, h4 _ (List.mem_singleton.2 rfl), rfl, hp, ha1, hsz⟩
    | ret => exact ⟨.ret, a1, h1', μ1, h4 _ (List.mem_singleton.2 rfl), rfl, hp, ha1, hsz⟩
  | rangeFunc f ps asg b =>
    simp only [codeOk, Bool.and_eq_true, List.all_eq_true] at hc
    have hps : ∀ p ∈ ps.toList, p < A'.tmps.size := fun p hp => Nat.le_of_ble_eq_true (hc.1.1 p hp)
    have hps' : ps.toList.toArray = ps := by simp
    cases rd with
    | none =>
      have hFw : F = Fence.wide := hF
      change Ae.rangeCall P go none (a.ev f) (Nat.succ h.next) ⟨a.tm, h.next :: a.df⟩ ((h.new (.dfd true)).new (.loop .ready none a.tm ps.toList asg b h.next)) ≠ .fail at hne
      change (Code.rangeFunc f ps asg b).wpIn F 0 P.P (CodeQ μ h w A'.tmps.size (Ae.rangeCall P go none (a.ev f) (Nat.succ h.next) ⟨a.tm, h.next :: a.df⟩ ((h.new (.dfd true)).new (.loop .ready none a.tm ps.toList asg b h.next))).list) A' w
      refine wpIn_rangeFunc fun fn hfn => ?_
      have p1 := r.alloc (.dfd true) (.deferred (some [])) ⟨w.heap.size, 0, 0, 0⟩ rfl (fun _ _ _ _ => by simp) (by show (w.heap.push _)[_]? = _; exact push_new)
      have hs1 := r.sub_new ⟨w.heap.size, 0, 0, 0⟩
      have p2 := p1.rr.alloc (.loop .ready none a.tm ps.toList asg b h.next) (.loop { state := .ready, pending := none, fn := fn, tmps := A'.tmps, params := ps, assign := asg, body := b, defers := w.heap.size })
        ⟨(w.alloc (.deferred (some []))).heap.size, 0, 0, 0⟩ rfl (fun _ _ _ _ => by simp)
        ⟨fn, A'.tmps, w.heap.size, by rw [hps']; exact push_new, (ha.tm.mono hs1).mono (p1.rr.sub_new _), ⟨_, p1.rr.sub_new _ _ _ (muNew_same _ _ _), rfl⟩, hc.1.2, hc.2, hps⟩
      have p12 := p1.trans p2
      have hs12 := p12.sub r
      have hnext : (h.new (.dfd true)).next = Nat.succ h.next := H.next_new _ _
      have hl : (muNew (muNew μ h.next ⟨w.heap.size, 0, 0, 0⟩) (h.new (.dfd true)).next ⟨(w.alloc (.deferred (some []))).heap.size, 0, 0, 0⟩) (Nat.succ h.next) = some ⟨(w.alloc (.deferred (some []))).heap.size, 0, 0, 0⟩ := by
        rw [hnext]; exact muNew_same _ _ _
      have ha2 : AR (muNew (muNew μ h.next ⟨w.heap.size, 0, 0, 0⟩) (h.new (.dfd true)).next ⟨(w.alloc (.deferred (some []))).heap.size, 0, 0, 0⟩) ⟨a.tm, h.next :: a.df⟩
          { A' with defers := [{ target := .collected w.heap.size, args := #[] }] ++ A'.defers } :=
        ⟨ha.tm.mono hs12, ⟨_, _, p1.rr.sub_new _ _ _ (muNew_same _ _ _), rfl, DR.mono hs12 _ _ ha.df⟩⟩
      obtain ⟨d, g, args, h1, h2, h3⟩ := rangeCall_ok ok hgo (rd := none) (F := F) p12.rr hl ha2 hFw ((ev_vr ha f).mono hs12) hne
      refine ⟨(w.alloc (.deferred (some []))).heap.size, [{ target := .collected w.heap.size, args := #[] }], ((w.alloc (.deferred (some []))).alloc (.loop { state := .ready, pending := none, fn := fn, tmps := A'.tmps, params := ps, assign := asg, body := b, defers := w.heap.size })), d, ((w.alloc (.deferred (some []))).alloc (.loop { state := .ready, pending := none, fn := fn, tmps := A'.tmps, params := ps, assign := asg, body := b, defers := w.heap.size })), g, args, ((w.alloc (.deferred (some []))).alloc (.loop { state := .ready, pending := none, fn := fn, tmps := A'.tmps, params := ps, assign := asg, body := b, defers := w.heap.size })), ?_, ?_, fun _ _ => hF.fn _, h2, hF.depth, hF.calls (h3.mono fun e w' hq => ?_)⟩
      · rw [hFw]
        show (Instr.enterLoop fn A'.tmps ps asg b none).run P.P w = _
        unfold Instr.enterLoop
        simp only [Sem.run_bind, run_newObj, Result.andThen_ok, Sem.run_pure]
        rfl
      · rw [resolve_range _ _ _ rfl]; exact h1
      · cases e with
        | returned v =>
          obtain ⟨jump, w4, hend, hj⟩ := hq
          refine ⟨jump, w4, hend, ?_⟩
          cases jump with
          | none => exact CodeQ.back p12 (fun y hy => hy) hj
          | some c => exact wpIn_mono hj fun e A2 w2 hq => CodeQ.back p12 (fun y hy => hy) hq
        | panicked ch =>
          exact CodeQ.back p12 (fun y hy => hy) hq
        | outgrown =>
          obtain ⟨a0, w0, hq⟩ := hq
          exact ⟨a0, w0, CodeQ.back p12 (fun y hy => hy) hq⟩
    | some l0 =>
      obtain ⟨L0, hl0, hFr⟩ := hF
      have hF : FenceR μ (some l0) F := ⟨L0, hl0, hFr⟩
      have hshape : cRange f ps asg b P orc go (some l0) a h = match h.get l0 with
        | .loop _ _ _ _ _ _ df => Ae.rangeCall P go (some l0) (a.ev f) h.next a (h.new (.loop .ready none a.tm ps.toList asg b df))
        | _ => .fail := rfl
      change cRange f ps asg b P orc go (some l0) a h ≠ .fail at hne
      change (Code.rangeFunc f ps asg b).wpIn F 0 P.P (CodeQ μ h w A'.tmps.size (cRange f ps asg b P orc go (some l0) a h).list) A' w
      rw [hshape] at hne ⊢
      cases hg : h.get l0 with
      | loop st0 pend0 tm0 ps0 asg0 b0 df =>
        rw [hg] at hne
        simp only at hne ⊢
        obtain ⟨rec, k1, k2, k3, k4, k5, k6, k7, ⟨Ld, k8, k8'⟩, k9, k10, k11, k12⟩ := r.setLoop hl0 hg
        refine wpIn_rangeFunc fun fn hfn => ?_
        have p2 := r.alloc (.loop .ready none a.tm ps.toList asg b df) (.loop { state := .ready, pending := none, fn := fn, tmps := A'.tmps, params := ps, assign := asg, body := b, defers := rec.defers })
          ⟨w.heap.size, 0, 0, 0⟩ rfl (fun _ _ _ _ => by simp)
          ⟨fn, A'.tmps, rec.defers, by rw [hps']; exact push_new, ha.tm.mono (r.sub_new _), ⟨_, r.sub_new _ _ _ k8, k8'⟩, hc.1.2, hc.2, hps⟩
        have hs2 := p2.sub r
        have hl : (muNew μ h.next ⟨w.heap.size, 0, 0, 0⟩) h.next = some ⟨w.heap.size, 0, 0, 0⟩ := muNew_same _ _ _
        obtain ⟨d, g, args, h1, h2, h3⟩ := rangeCall_ok ok hgo (rd := some l0) (F := F) p2.rr hl (ha.mono hs2) (hF.mono hs2) ((ev_vr ha f).mono hs2) hne
        refine ⟨w.heap.size, [], (w.alloc (.loop { state := .ready, pending := none, fn := fn, tmps := A'.tmps, params := ps, assign := asg, body := b, defers := rec.defers })), d, (w.alloc (.loop { state := .ready, pending := none, fn := fn, tmps := A'.tmps, params := ps, assign := asg, body := b, defers := rec.defers })), g, args, (w.alloc (.loop { state := .ready, pending := none, fn := fn, tmps := A'.tmps, params := ps, assign := asg, body := b, defers := rec.defers })), ?_, ?_, fun _ _ => hF.fn _, h2, hF.depth, hF.calls (h3.mono fun e w' hq => ?_)⟩
        · rw [hFr]
          show (Instr.enterLoop fn A'.tmps ps asg b (some L0.blk)).run P.P w = _
          unfold Instr.enterLoop
          simp only [Sem.run_bind, getLoop_run k1, run_newObj, Result.andThen_ok, Sem.run_pure]
          rfl
        · rw [resolve_range _ _ _ rfl]; exact h1
        · cases e with
          | returned v =>
            obtain ⟨jump, w4, hend, hj⟩ := hq
            refine ⟨jump, w4, hend, ?_⟩
            cases jump with
            | none => exact CodeQ.back p2 (fun y hy => hy) hj
            | some c => exact wpIn_mono hj fun e A2 w2 hq => CodeQ.back p2 (fun y hy => hy) hq
          | panicked ch =>
            exact CodeQ.back p2 (fun y hy => hy) hq
          | outgrown =>
            obtain ⟨a0, w0, hq⟩ := hq
            exact ⟨a0, w0, CodeQ.back p2 (fun y hy => hy) hq⟩
      | _ => rw [hg] at hne; exact absurd rfl hne
end
end Ae

namespace Ae
open Go

section
variable {P : Tb} (ok : P.Ok) {orc : Orc} (horc : OrcOk P orc) (hdraw : DrawOk P orc)

/-! ### calls -/
theorem argsT_get : ∀ (l : List V) (i : Nat) (t : T V) (j : Nat), (argsT l i t).get j = if i ≤ j ∧ j < i + l.length then some (lget .any l (j - i)) else t.get j
  | [], i, t, j => by
    rw [if_neg (fun h => by have := h.2; simp at this; omega)]; rfl
  | v :: l, i, t, j => by
    show (argsT l (Nat.succ i) (t.set i v)).get j = _
    rw [argsT_get l (Nat.succ i) (t.set i v) j, T.get_set]
    simp only [List.length_cons, Nat.succ_eq_add_one]
    by_cases h1 : j = i
    · subst h1
      rw [if_neg (by omega), if_pos rfl, if_pos (by omega), Nat.sub_self]; rfl
    · by_cases h2 : i + 1 ≤ j ∧ j < i + 1 + l.length
      · rw [if_pos h2, if_pos (by omega), show j - i = (j - (i + 1)) + 1 by omega]; rfl
      · rw [if_neg h2, if_neg h1, if_neg (by omega)]
theorem args_TR {μ : Mu} {args : List V} {args' : Array Value} (hv : VRs μ args args'.toList) (n : Nat) : TR μ (argsT args 0 .nil) (args' ++ Array.replicate n undef) := by
  intro t v ht
  rw [argsT_get] at ht
  by_cases h1 : 0 ≤ t ∧ t < 0 + args.length
  · rw [if_pos h1] at ht
    have hlt : t < args.length := by omega
    obtain ⟨u, h2, h3⟩ := hv.get t .any hlt
    simp only [Nat.sub_zero, Option.some.injEq] at ht
    rw [ht] at h3
    have hlen : args.length = args'.size := by simpa using hv.length
    rw [Array.getD_eq_getD_getElem?, Array.getElem?_append_left (by omega)]
    rw [Array.getElem?_toList] at h2
    rw [h2]; exact h3
  · rw [if_neg h1, T.get_nil] at ht; cases ht

/-- the marks among the deferred calls are shut -/
theorem shut_ok {fn : Func} {tmps : Array Value} {R : Ending → World → Prop} {n : Nat} : ∀ {ds : List Nat} {μ : Mu} {h h' : H} {w : World} {dl : List Deferred}, shut ds h = some h' → DR μ ds dl → RR μ h w.heap →
    (∀ w', Post μ h w μ h' w' → ∃ v, (results fn tmps).run P.P w' = .ok v w' ∧ R (.returned v) w') → LeavesInM Fence.wide n P.P fn tmps R dl .returning w
  | [], μ, h, h', w, dl, hs, hd, r, hR => by
    simp only [DR] at hd; subst hd
    cases hs
    exact hR w (Post.refl r)
  | d :: ds, μ, h, h', w, dl, hs, hd, r, hR => by
    obtain ⟨L, rest, hL, rfl, hd'⟩ := hd
    unfold shut at hs
    cases hg : h.get d with
    | dfd op =>
      cases op with
      | false => rw [hg] at hs; cases hs
      | true =>
        rw [hg] at hs
        simp only at hs
        have ho := r.obj d L hL
        rw [hg] at ho
        simp only [OR, if_true] at ho
        have hlt := r.lt d L hL
        have hp : Post μ h w μ (h.put d (.dfd false)) (setBlk w L.blk (.deferred none)) := by
          refine r.putObj hL (by rw [hg]; rfl) (by rw [hg]; rfl) _ (by simp only [OR, Bool.false_eq_true, if_false]; exact setBlk_same hlt) (fun _ _ _ _ e => by cases e) ?_ setBlk_size (fun c hc => setBlk_other hc) rfl rfl rfl
          intro c' L1 ver left cur hc1 hcb hgc hold Lm since seen stepped hmu hi ver2 es2 hgm
          rw [H.get_put, if_pos rfl] at hgm; cases hgm
        refine ⟨by simp, .inl ⟨L.blk, setBlk w L.blk (.deferred none), rfl, ?_, shut_ok hs hd' hp.rr fun w' hp2 => hR w' (hp.trans hp2)⟩⟩
        unfold Instr.takeDeferred
        simp only [Sem.run_bind, run_getObj_of ho (by simp), Result.andThen_ok, run_setObj_of ho (by simp), Sem.run_pure]
    | _ => rw [hg] at hs; cases hs

include ok in
theorem aloadT_ok {μ : Mu} {h : H} {w : World} (r : RR μ h w.heap) {t : TypeId} {p : Nat × Nat} {x : V} (hx : aloadT P h t p = some x) {L : Loc} (hL : μ p.1 = some L) :
    ∃ v, (loadVar t ⟨L.blk, L.base + p.2, none⟩).run P.P w = .ok v w ∧ VR μ x v := by
  have := loadK_ok ok r (o := p.2) hL t
  unfold aloadT at hx
  cases hk : tk P t with
  | bad => rw [hk] at hx; cases hx
  | one =>
    rw [hk] at hx this
    change SVal P μ h w _ (R.of (h.load1 p.1 p.2)) at this
    simp only at hx
    rw [hx] at this
    exact this
  | agg =>
    rw [hk] at hx this
    simp only at hx
    change SVal P μ h w _ (loadAgg P t h p.1 p.2) at this
    unfold loadAgg at this
    cases hs : sizeT P t with
    | none => rw [hs] at hx; cases hx
    | some n =>
      rw [hs] at hx this
      simp only at hx this
      rw [hx] at this
      exact this

def resF (tmps : Array Value) (x : ResultVar) : Sem Value := match x with
  | .tmp t => pure (tmps.getD t undef)
  | .cell a t => do loadVar t (← asAddr (tmps.getD a undef))
theorem results_eq (fn : Func) (tmps : Array Value) : results fn tmps = (do let vs ← fn.results.mapM (resF tmps); pure (if h : vs.size = 1 then vs[0] else .tuple vs)) := rfl

include ok in
theorem resultsA_ok {μ : Mu} {a : A} {A' : Act} {h : H} {w : World} (r : RR μ h w.heap) (ha : TR μ a.tm A'.tmps) : ∀ {l : List ResultVar} {vs : List V}, resultsA P a h l = some vs →
    ∃ us : List Value, (l.mapM (resF A'.tmps)).run P.P w = .ok us w ∧ VRs μ vs us
  | [], vs, hv => by cases hv; exact ⟨[], rfl, by simp [VRs]⟩
  | x :: l, vs, hv => by
    unfold resultsA at hv
    cases h2 : resultsA P a h l with
    | none => cases x <;> simp only [h2] at hv <;> (first | (cases hv; done) | (split at hv <;> simp_all))
    | some vs' =>
      obtain ⟨us, h3, h4⟩ := resultsA_ok r ha h2
      cases x with
      | tmp t =>
        simp only [h2, Option.some.injEq] at hv
        subst hv
        refine ⟨A'.tmps.getD t undef :: us, ?_, by simp only [VRs]; exact ⟨_, _, rfl, tmp_vr ha t, h4⟩⟩
        rw [List.mapM_cons]
        simp only [resF, Sem.run_bind, Sem.run_pure, Result.andThen_ok]
        rw [h3]; rfl
      | cell p t =>
        simp only [h2] at hv
        cases hp : (a.tmp p).ptr? with
        | none => simp [hp] at hv
        | some q =>
          simp only [hp] at hv
          cases hl : aloadT P h t q with
          | none => simp [hl] at hv
          | some x =>
            simp only [hl, Option.some.injEq] at hv
            subst hv
            have hpv := tmp_vr ha p
            rw [V.ptr?_some hp] at hpv
            obtain ⟨L, hL, he⟩ := hpv.ptr
            obtain ⟨v, h5, h6⟩ := aloadT_ok ok r hl hL
            refine ⟨v :: us, ?_, by simp only [VRs]; exact ⟨_, _, rfl, h6, h4⟩⟩
            rw [List.mapM_cons]
            have e1 : (resF A'.tmps (.cell p t)).run P.P w = .ok v w := by
              unfold resF
              simp only [Sem.run_bind, he, asAddr, Sem.run_pure, Result.andThen_ok, h5]
            simp only [Sem.run_bind, e1, Result.andThen_ok, h3, Sem.run_pure]

include ok in
theorem results_ok {μ : Mu} {a : A} {A' : Act} {h : H} {w : World} (r : RR μ h w.heap) (ha : TR μ a.tm A'.tmps) {fn : Func} {vs : List V} (hv : resultsA P a h fn.results.toList = some vs) :
    ∃ v, (results fn A'.tmps).run P.P w = .ok v w ∧ VR μ (packed vs) v := by
  obtain ⟨us, h1, h2⟩ := resultsA_ok ok r ha hv
  have hm : (fn.results.mapM (resF A'.tmps)).run P.P w = .ok us.toArray w := by
    rw [Array.mapM_eq_mapM_toList]
    simp only [Sem.run_map, h1, Result.andThen_ok]
  refine ⟨if h : us.toArray.size = 1 then us.toArray[0] else .tuple us.toArray, ?_, ?_⟩
  · rw [results_eq]
    simp only [Sem.run_bind, hm, Result.andThen_ok, Sem.run_pure]
  · have hl := h2.length
    match vs, us, h2, hl with
    | [x], [u], h2, _ =>
      simp only [VRs] at h2
      obtain ⟨_, _, e, h3, _⟩ := h2
      cases e
      exact h3
    | [], [], _, _ => simp [packed, VR, VRs]
    | x :: y :: l, u :: u' :: us, h2, _ =>
      have : ¬ (u :: u' :: us).toArray.size = 1 := by simp
      rw [dif_neg this]
      show VR μ (.tup (x :: y :: l)) _
      simp only [VR]
      exact ⟨_, rfl, h2⟩

include ok in
theorem call_ok {go : Go} (hgo : GoOk P go) (f : Nat) (args : List V) (h : H) (μ : Mu) (w : World) (args' : Array Value) (r : RR μ h w.heap) (hv : VRs μ args args'.toList) (hne : runCall P go f args h ≠ .fail) :
    CallsIn Fence.wide 0 P.P f args' w (ValQ μ h w (resV (runCall P go f args h).list)) := by
  unfold runCall at hne ⊢
  cases hf : P.func? f with
  | none => rw [hf] at hne; exact absurd rfl hne
  | some fn =>
    rw [hf] at hne
    simp only at hne ⊢
    cases hb : fn.body with
    | none => rw [hb] at hne; exact absurd rfl hne
    | some c =>
      rw [hb] at hne
      simp only at hne ⊢
      cases hc : codeOk fn.ntmps c with
      | false => rw [hc] at hne; exact absurd rfl hne
      | true =>
        rw [hc] at hne
        simp only [sel_true] at hne ⊢
        obtain ⟨h1, h2⟩ := M.bind_mem hne
        have hsz : fn.ntmps ≤ (args' ++ Array.replicate (fn.ntmps - args'.size) undef).size := by simp; omega
        have har : AR μ ⟨argsT args 0 .nil, []⟩ { tmps := args' ++ Array.replicate (fn.ntmps - args'.size) undef, defers := [] } := ⟨args_TR hv _, rfl⟩
        refine callsIn_of_wp_marks (ok.funcs f fn hf) hb trivial ?_
        refine wpIn_mono (hgo.code none c ⟨argsT args 0 .nil, []⟩ h μ _ w Fence.wide r har rfl (codeOk_mono hsz c hc) h1) fun e A1 w1 hq => ?_
        obtain ⟨x, a1, h1', μ1, hm, rfl, hp, ha1, hs1⟩ := hq
        obtain ⟨h3, h4⟩ := h2 _ hm
        unfold endCall at h3 h4
        have key : (x = .norm ∨ x = .ret) → LeavesInM Fence.wide 0 P.P fn A1.tmps (ValQ μ h w (resV ((go (.code none c ⟨argsT args 0 .nil, []⟩) h).bind (endCall P fn)).list)) A1.defers .returning w1 := by
          intro hx
          have h3' : (match shut a1.df h1' with
              | none => M.fail
              | some h' => match resultsA P a1 h' fn.results.toList with
                | some vs => .one (.val (packed vs)) h'
                | none => .fail : M Res) ≠ .fail ∧ ∀ y ∈ (match shut a1.df h1' with
              | none => M.fail
              | some h' => match resultsA P a1 h' fn.results.toList with
                | some vs => .one (.val (packed vs)) h'
                | none => .fail : M Res).list, y ∈ ((go (.code none c ⟨argsT args 0 .nil, []⟩) h).bind (endCall P fn)).list := by
            rcases hx with rfl | rfl <;> exact ⟨h3, h4⟩
          obtain ⟨h5, h6⟩ := h3'
          cases hsh : shut a1.df h1' with
          | none => rw [hsh] at h5; exact absurd rfl h5
          | some h' =>
            rw [hsh] at h5 h6
            simp only at h5 h6
            cases hres : resultsA P a1 h' fn.results.toList with
            | none => rw [hres] at h5; exact absurd rfl h5
            | some vs =>
              rw [hres] at h6
              simp only at h6
              refine shut_ok hsh ha1.df hp.rr fun w' hp2 => ?_
              obtain ⟨v, h7, h8⟩ := results_ok ok hp2.rr ha1.tm hres
              exact ⟨v, h7, packed vs, v, h', μ1, rfl, resV_mem.2 (h6 _ (List.mem_singleton.2 rfl)), hp.trans hp2, h8⟩
        cases x with
        | norm => exact key (.inl rfl)
        | ret => exact key (.inr rfl)
        | exit id => exact absurd rfl h3
        | goto l => exact absurd rfl h3
end
end Ae

namespace Ae
open Go

section
variable {P : Tb} (ok : P.Ok) {orc : Orc} (horc : OrcOk P orc) (hdraw : DrawOk P orc)

/-! ### rounds -/
theorem setPs_TR {μ : Mu} : ∀ {ps : List Nat} {args : List V} {args' : List Value} {tm : T V} {tmps : Array Value}, ps.length = args.length → VRs μ args args' → TR μ tm tmps → (∀ p ∈ ps, p < tmps.size) →
    TR μ (setPs ps args tm) ((ps.zip args').foldl (fun tmps (x : Nat × Value) => tmps.setIfInBounds x.1 x.2) tmps) ∧ ((ps.zip args').foldl (fun tmps (x : Nat × Value) => tmps.setIfInBounds x.1 x.2) tmps).size = tmps.size
  | [], args, args', tm, tmps, hl, hv, ht, _ => by cases args <;> exact ⟨ht, rfl⟩
  | p :: ps, [], args', tm, tmps, hl, hv, ht, _ => by simp at hl
  | p :: ps, v :: args, args', tm, tmps, hl, hv, ht, hp => by
    simp only [VRs] at hv
    obtain ⟨u, us, rfl, h1, h2⟩ := hv
    have hset : TR μ (T.set tm p v) (tmps.setIfInBounds p u) := by
      have := (AR.put (a := ⟨tm, []⟩) (A' := ⟨tmps, []⟩) ⟨ht, rfl⟩ (some p) h1 (fun t e => by cases e; exact hp p (by simp))).tm
      exact this
    have := setPs_TR (tm := T.set tm p v) (tmps := tmps.setIfInBounds p u) (by simpa using hl) h2 hset (fun q hq => by rw [Array.size_setIfInBounds]; exact hp q (List.mem_cons_of_mem _ hq))
    rw [List.zip_cons_cons, List.foldl_cons]
    exact ⟨this.1, by rw [this.2]; simp⟩

theorem codeOf_post {μ : Mu} {h : H} {w : World} {L : Nat} {R : Ending → World → Prop} {x : X} {A' : Act} (hr : ∃ v w', (Instr.endRound L (codeOf x)).run P.P w = .ok v w' ∧ R (.returned v) w') : roundPost P.P L R (xExit x) A' w := by
  cases x <;> exact hr

include ok in
theorem round_ok {go : Go} (hgo : GoOk P go) (l : Nat) (L : Loc) (args : List V) (h : H) (μ : Mu) (w : World) (args' : Array Value) (hl : μ l = some L) (r : RR μ h w.heap) (hv : VRs μ args args'.toList) (hne : runRound go l args h ≠ .fail) :
    ∃ fn tmps x y, (Instr.yield L.blk args').run P.P w = .ok (.round L.blk fn tmps x y) w ∧
      RoundIn Fence.wide 0 P.P L.blk fn tmps x y w (ValQ μ h w (resV (runRound go l args h).list)) := by
  unfold runRound at hne ⊢
  cases hg : h.get l with
  | loop st pend tm ps asg b df =>
    rw [hg] at hne
    simp only at hne ⊢
    cases hlen : Nat.beq ps.length args.length with
    | false => rw [hlen] at hne; exact absurd rfl hne
    | true =>
      rw [hlen] at hne
      simp only [cond_true] at hne ⊢
      have hlen' := Nat.eq_of_beq_eq_true hlen
      obtain ⟨rec, k1, k2, k3, k4, k5, k6, k7, k8, k9, k10, k11, k12⟩ := r.setLoop hl hg
      have hasz : args.length = args'.size := by simpa using hv.length
      obtain ⟨t1, t2⟩ := setPs_TR hlen' hv k7 k11
      have hfold : (rec.params.zip args').foldl (fun tmps (t, a) => tmps.setIfInBounds t a) rec.tmps = (ps.zip args'.toList).foldl (fun tmps (x : Nat × Value) => tmps.setIfInBounds x.1 x.2) rec.tmps := by
        rw [k4, ← Array.foldl_toList, Array.toList_zip]
      refine ⟨rec.fn, (ps.zip args'.toList).foldl (fun tmps (x : Nat × Value) => tmps.setIfInBounds x.1 x.2) rec.tmps, asg, b, ?_, ?_⟩
      · unfold Instr.yield
        have hps : ¬ args'.size ≠ rec.params.size := by rw [k4]; simp; omega
        simp only [Sem.run_bind, getLoop_run k1, Result.andThen_ok, hps, if_false, Sem.run_pure]
        rw [hfold, k5, k6]
        try rfl
      · obtain ⟨h1, h2⟩ := M.bind_mem hne
        have hFr : FenceR μ (some l) (Fence.wide.inRound L.blk) := ⟨L, hl, rfl⟩
        refine roundIn_of_wpIn trivial ?_
        refine wpIn_mono (hgo.code (some l) asg ⟨setPs ps args tm, []⟩ h μ _ w _ r ⟨t1, rfl⟩ hFr (by rw [t2]; exact k9) h1) fun e A1 w1 hq => ?_
        obtain ⟨x, a1, h1', μ1, hm, rfl, hp, ha1, hs1⟩ := hq
        obtain ⟨h3, h4⟩ := h2 _ hm
        unfold beginRound at h3 h4
        have hl1 : μ1 l = some L := by rw [hp.ext l (r.dom l L hl)]; exact hl
        cases x with
        | norm =>
          simp only at h3 h4
          cases hg1 : h1'.get l with
          | loop st1 pend1 tm1 ps1 asg1 b1 df1 =>
            rw [hg1] at h3 h4
            simp only at h3 h4
            cases st1 with
            | ready =>
              simp only at h3 h4
              obtain ⟨rec1, m1, m2, m3, m4, m5, m6, m7, m8, m9, m10, m11, m12⟩ := hp.rr.setLoop hl1 hg1
              have pb := m12 .busy pend1
              refine ⟨setBlk w1 L.blk (.loop { rec1 with state := .busy, pending := pend1 }), ?_, ?_⟩
              · unfold Instr.beginRound
                simp only [Sem.run_bind, getLoop_run m1, Result.andThen_ok, run_setObj_of m1 (by simp), m2, Sem.run_pure]
                rw [← m3]
              · obtain ⟨h5, h6⟩ := M.bind_mem h3
                have p2 := hp.trans pb
                have hs2 := pb.sub hp.rr
                refine wpIn_mono (hgo.code (some l) b a1 _ μ1 A1 _ _ pb.rr ha1 ⟨L, hl1, rfl⟩ (by rw [hs1, t2]; exact k10) h5) fun e A2 w2 hq => ?_
                obtain ⟨x2, a2, h2', μ2, hm2, rfl, hp3, ha2, hs3⟩ := hq
                obtain ⟨h7, h8⟩ := h6 _ hm2
                have p3 := p2.trans hp3
                have hl2 : μ2 l = some L := by rw [p3.ext l (r.dom l L hl)]; exact hl
                refine codeOf_post (h := h) (μ := μ) ?_
                unfold endRound at h7 h8
                simp only at h7 h8
                cases hdf : a2.df with
                | cons d ds => rw [hdf] at h7; exact absurd rfl h7
                | nil =>
                  rw [hdf] at h7 h8
                  cases hg2 : h2'.get l with
                  | loop st2 pend2 tm2 ps2 asg2 b2 df2 =>
                    rw [hg2] at h7 h8
                    simp only at h7 h8
                    obtain ⟨rec2, n1, n2, n3, n4, n5, n6, n7, n8, n9, n10, n11, n12⟩ := hp3.rr.setLoop hl2 hg2
                    have p4 := p3.trans (n12 (if (codeOf x2).isNone then .ready else .done) (codeOf x2))
                    refine ⟨.bool (codeOf x2).isNone, _, ?_, .bool (codeOf x2).isNone, .bool (codeOf x2).isNone, _, μ2, rfl, resV_mem.2 (h4 _ (h8 _ (List.mem_singleton.2 rfl))), p4, by simp [VR]⟩
                    unfold Instr.endRound
                    simp only [Sem.run_bind, getLoop_run n1, Result.andThen_ok, run_setObj_of n1 (by simp), Sem.run_pure]
                  | _ => rw [hg2] at h7; exact absurd rfl h7
            | _ => exact absurd rfl h3
          | _ => rw [hg1] at h3; exact absurd rfl h3
        | exit id => exact absurd rfl h3
        | goto l => exact absurd rfl h3
        | ret => exact absurd rfl h3
  | _ => rw [hg] at hne; exact absurd rfl hne

/-! ### loops, and the whole -/
theorem run_succ (n : Nat) (t : Task) (h : H) : run P orc (n + 1) t h = body P orc (run P orc n) t h := rfl
theorem run_zero (t : Task) (h : H) : run P orc 0 t h = .fail := rfl

theorem loop_ok {n : Nat} (hall : ∀ m, m ≤ n → GoOk P (run P orc m)) (rd : Option Nat) (b : Code) (a : A) (h : H) (μ : Mu) (A' : Act) (w : World) (F : Fence) (r : RR μ h w.heap) (ha : AR μ a A') (hF : FenceR μ rd F)
    (hc : codeOk A'.tmps.size b = true) (hne : run P orc (n + 1) (.code rd (.loop b) a) h ≠ .fail) :
    (Code.loop b).wpIn F 0 P.P (CodeQ μ h w A'.tmps.size (run P orc (n + 1) (.code rd (.loop b) a) h).list) A' w := by
  let full := (run P orc (n + 1) (.code rd (.loop b) a) h).list
  let I : Nat → Act → World → Prop := fun m A1 w1 => m ≤ n + 1 ∧ ∃ a1 h1 μ1, Post μ h w μ1 h1 w1 ∧ AR μ1 a1 A1 ∧ A1.tmps.size = A'.tmps.size ∧ run P orc m (.code rd (.loop b) a1) h1 ≠ .fail ∧
    ∀ y ∈ (run P orc m (.code rd (.loop b) a1) h1).list, y ∈ full
  refine wpIn_loop (fun A1 w1 => ∃ m, I m A1 w1) (fun A1 w1 => leastOf fun m => I m A1 w1) ⟨n + 1, Nat.le_refl _, a, h, μ, Post.refl r, ha, rfl, hne, fun y hy => hy⟩ fun A1 w1 hI => ?_
  have hsp := leastOf_spec hI
  obtain ⟨m, hm⟩ : ∃ m, (leastOf fun m => I m A1 w1) = m := ⟨_, rfl⟩
  rw [hm] at hsp ⊢
  obtain ⟨hmn, a1, h1, μ1, hp, ha1, hs1, hne1, hin⟩ := hsp
  cases m with
  | zero => exact absurd rfl hne1
  | succ m =>
    have hgo := hall m (by omega)
    change (run P orc m (.code rd b a1) h1).bind (thenCode (run P orc m) rd (.loop b)) ≠ .fail at hne1
    change ∀ y ∈ ((run P orc m (.code rd b a1) h1).bind (thenCode (run P orc m) rd (.loop b))).list, y ∈ full at hin
    obtain ⟨h2, h3⟩ := M.bind_mem hne1
    refine wpIn_mono (hgo.code rd b a1 h1 μ1 A1 w1 F hp.rr ha1 (hF.mono (hp.sub r)) (by rw [hs1]; exact hc) h2) fun e A2 w2 hq => ?_
    obtain ⟨x, a2, h2', μ2, hm2, rfl, hp2, ha2, hs2⟩ := hq
    obtain ⟨h4, h5⟩ := h3 _ hm2
    have he := thenCode_list (go := run P orc m) (rd := rd) (c := .loop b) (h := h2') x a2 rfl
    rw [he] at h4 h5
    have hp3 := hp.trans hp2
    cases x with
    | norm =>
      have hI2 : I m A2 w2 := ⟨by omega, a2, h2', μ2, hp3, ha2, hs2.trans hs1, h4, fun y hy => hin y (h5 y hy)⟩
      exact ⟨⟨m, hI2⟩, Nat.lt_succ_of_le (leastOf_le (p := fun m => I m A2 w2) hI2)⟩
    | exit id => exact ⟨.exit id, a2, h2', μ2, hin _ (h5 _ (List.mem_singleton.2 rfl)), rfl, hp3, ha2, hs2.trans hs1⟩
    | goto l => exact ⟨.goto l, a2, h2', μ2, hin _ (h5 _ (List.mem_singleton.2 rfl)), rfl, hp3, ha2, hs2.trans hs1⟩
    | ret => exact ⟨.ret, a2, h2', μ2, hin _ (h5 _ (List.mem_singleton.2 rfl)), rfl, hp3, ha2, hs2.trans hs1⟩

include ok horc hdraw in
theorem run_ok : ∀ n, GoOk P (run P orc n) := by
  intro n
  induction n using Nat.strongRecOn with
  | _ n ih =>
    cases n with
    | zero => exact ⟨fun _ _ _ _ _ _ _ _ _ _ _ _ hne => absurd rfl hne, fun _ _ _ _ _ _ _ _ hne => absurd rfl hne, fun _ _ _ _ _ _ _ _ _ _ hne => absurd rfl hne⟩
    | succ n =>
      have hall : ∀ m, m ≤ n → GoOk P (run P orc m) := fun m hm => ih m (by omega)
      have hgo := hall n (Nat.le_refl _)
      refine ⟨fun rd c a h μ A' w F r ha hF hc hne => ?_, fun f args h μ w args' r hv hne => ?_, fun l L args h μ w args' hl r hv hne => ?_⟩
      · by_cases hloop : ∃ b, c = .loop b
        · obtain ⟨b, rfl⟩ := hloop
          exact loop_ok hall rd b a h μ A' w F r ha hF (by simpa [codeOk] using hc) hne
        · exact code_ok ok horc hdraw hgo rd c a h μ A' w F r ha hF hc hne fun b e => hloop ⟨b, e⟩
      · exact call_ok ok hgo f args h μ w args' r hv hne
      · exact round_ok ok hgo l L args h μ w args' hl r hv hne
end
end Ae
