/- Two functions of the library that the executor takes by what they come to: slices.Sorted at the keys of a map, slices.Insert of one element. -/
import Derived.Test.YtbjgflfdncikaaaGreatDoorEc
import Derived.Shelf.SlIterI.Nil
import Derived.Shelf.Spec.SlicesInsert
set_option linter.unusedVariables false
set_option linter.unusedSimpArgs false
set_option linter.unusedSectionVars false
namespace Ae
open Go Go.RowKit

/-! ### a world that has grown -/
/-- a new block, somewhere behind all that was there -/
theorem RR.newAt {μ : Mu} {h : H} {w w' : World} (r : RR μ h w.heap) (hb : Below w.heap.size w w') (o : O) (L : Loc) (hL : w.heap.size ≤ L.blk) (hlt : L.blk < w'.heap.size)
    (hit : ∀ m ver left cur, o ≠ .iter (some m) ver left cur) (ho : OR (muNew μ h.next L) w'.heap L o) (hzb : L.es = 0 → L.base = 0) : Post μ h w (muNew μ h.next L) (h.new o) w' := by
  have hsub := r.sub_new L
  have hold : ∀ c, c < w.heap.size → w'.heap[c]? = w.heap[c]? := hb.block
  refine ⟨⟨?_, ?_, ?_, ?_, ?_, ?_, ?_, by rw [H.pc_new]; exact r.pc.mono hsub⟩, ?_, ?_, hb.size, fun c hc _ => hold c hc, ?_, r.qnew o, hb.tape, hb.os, hb.output⟩
  · intro b L' e
    rw [H.next_new]
    by_cases hb : b = h.next
    · omega
    · rw [muNew_other hb] at e; have := r.dom b L' e; omega
  · intro b L' e
    by_cases hbn : b = h.next
    · subst hbn; rw [muNew_same] at e; cases e; exact hlt
    · rw [muNew_other hbn] at e; exact Nat.lt_of_lt_of_le (r.lt b L' e) hb.size
  · intro b L' e
    rw [H.get_new]
    by_cases hbn : b = h.next
    · subst hbn; rw [muNew_same] at e; cases e; rw [if_pos rfl]; exact ho
    · rw [muNew_other hbn] at e; rw [if_neg hbn]
      exact OR.congr (hold _ (r.lt b L' e)) _ (OR.mono hsub _ (r.obj b L' e))
  · intro b b' L1 L2 e1 e2 hne l1 l2
    rw [H.get_new] at l1 l2
    by_cases hb : b = h.next <;> by_cases hb' : b' = h.next
    · omega
    · subst hb; rw [muNew_same] at e1; cases e1; rw [muNew_other hb'] at e2; have := r.lt b' L2 e2; omega
    · subst hb'; rw [muNew_same] at e2; cases e2; rw [muNew_other hb] at e1; have := r.lt b L1 e1; omega
    · rw [muNew_other hb] at e1; rw [muNew_other hb'] at e2; rw [if_neg hb] at l1; rw [if_neg hb'] at l2
      exact r.sep b b' L1 L2 e1 e2 hne l1 l2
  · intro b L1 m ver left cur e hg
    rw [H.get_new] at hg
    by_cases hb : b = h.next
    · rw [if_pos hb] at hg; exact absurd hg (hit _ _ _ _)
    · rw [if_neg hb] at hg; rw [muNew_other hb] at e
      intro Lm since seen stepped hm hi ver' es' hgm
      have hil : w'.heap[L1.blk]? = w.heap[L1.blk]? := hold _ (r.lt b L1 e)
      have hm' : μ m = some Lm ∧ m ≠ h.next := by
        by_cases hmn : m = h.next
        · have := r.obj b L1 e
          rw [hg] at this
          obtain ⟨_, Lm', h1, _⟩ := this
          have := r.dom m Lm' h1; omega
        · rw [muNew_other hmn] at hm; exact ⟨hm, hmn⟩
      rw [H.get_new, if_neg hm'.2] at hgm
      obtain ⟨h1, h2⟩ := r.its b L1 m ver left cur e hg Lm since seen stepped hm'.1 (hil ▸ hi) ver' es' hgm
      refine ⟨h1, fun hv => ?_⟩
      obtain ⟨ents, clk, h3, h4⟩ := h2 hv
      exact ⟨ents, clk, (hold _ (r.lt m Lm hm'.1)).trans h3, h4⟩
  · intro b hb
    rw [H.next_new] at hb
    rw [H.get_new, if_neg (by omega)]; exact r.up b (by omega)
  · intro b L' e
    by_cases hb : b = h.next
    · subst hb; rw [muNew_same] at e; cases e; exact hzb
    · rw [muNew_other hb] at e; exact r.zb b L' e
  · intro b hb; rw [muNew_other (by omega)]
  · rw [H.next_new]; omega
  · intro b L' e
    by_cases hb : b = h.next
    · subst hb; rw [muNew_same] at e; cases e; exact .inr hL
    · rw [muNew_other hb] at e; exact .inl ⟨b, L', e, rfl, .inl rfl⟩
/-- the world has grown, and nothing of it is known -/
theorem RR.grown {μ : Mu} {h : H} {w w' : World} (r : RR μ h w.heap) (hb : Below w.heap.size w w') : Post μ h w μ h w' := by
  have hold : ∀ c, c < w.heap.size → w'.heap[c]? = w.heap[c]? := hb.block
  refine ⟨⟨r.dom, fun b L e => Nat.lt_of_lt_of_le (r.lt b L e) hb.size, fun b L e => OR.congr (hold _ (r.lt b L e)) _ (r.obj b L e), r.sep, ?_, r.up, r.zb, r.pc⟩, fun _ _ => rfl, Nat.le_refl _, hb.size, fun c hc _ => hold c hc, fun b L e => .inl ⟨b, L, e, rfl, .inl rfl⟩, fun _ _ => rfl, hb.tape, hb.os, hb.output⟩
  intro b L1 m ver left cur e hg Lm since seen stepped hm hi ver' es' hgm
  rw [hold _ (r.lt b L1 e)] at hi
  obtain ⟨h1, h2⟩ := r.its b L1 m ver left cur e hg Lm since seen stepped hm hi ver' es' hgm
  refine ⟨h1, fun hv => ?_⟩
  obtain ⟨ents, clk, h3, h4⟩ := h2 hv
  exact ⟨ents, clk, (hold _ (r.lt m Lm hm)).trans h3, h4⟩

/-! ### the keys of a map, sorted -/
def insSorted (x : Int) : List Int → List Int
  | [] => [x]
  | y :: l => if x ≤ y then x :: y :: l else y :: insSorted x l
def sortI : List Int → List Int
  | [] => []
  | x :: l => insSorted x (sortI l)
def ints : List Int → List V
  | [] => []
  | n :: l => .int .i64 n :: ints l
def keysI : List (V × V) → Option (List Int)
  | [] => some []
  | p :: l => match p.1 with
    | .int .i64 n => match keysI l with
      | some r => bif decide (-9223372036854775808 ≤ n) && decide (n ≤ 9223372036854775807) then some (n :: r) else none
      | none => none
    | _ => none
noncomputable def orcSorted (kf : Nat) (args : List V) (h : H) : Option (M V) :=
  match args with
  | [.clo g [] [.ptr b 0]] => bif Nat.beq g kf then match h.get b with
      | .cells n 0 (.mp m :: _) _ => bif Nat.blt 0 n then match h.get m with
        | .map _ es => match keysI es with
          | some ks => bif Nat.ble ks.length 65536 then (match ks with
              | [] => some (.one (.nils 0 0) h)
              | _ => some (.one (.sl h.next 0 ks.length ks.length false) (h.new (.cells ks.length 1 (ints (sortI ks)) .any)))) else none
          | none => none
        | _ => none
        else none
      | _ => none
      else none
  | _ => none

theorem insSorted_perm (x : Int) : ∀ l, (insSorted x l).Perm (x :: l)
  | [] => .refl _
  | y :: l => by
    unfold insSorted
    split
    · exact .refl _
    · exact ((insSorted_perm x l).cons y).trans (.swap x y l)
theorem sortI_perm : ∀ l, (sortI l).Perm l
  | [] => .refl _
  | x :: l => (insSorted_perm x _).trans ((sortI_perm l).cons x)
theorem insSorted_sorted (x : Int) : ∀ l, l.Pairwise (· ≤ ·) → (insSorted x l).Pairwise (· ≤ ·)
  | [], _ => by simp [insSorted]
  | y :: l, h => by
    obtain ⟨h1, h2⟩ := List.pairwise_cons.1 h
    unfold insSorted
    split
    · rename_i hxy
      refine List.pairwise_cons.2 ⟨fun z hz => ?_, h⟩
      rcases List.mem_cons.1 hz with rfl | hz
      · exact hxy
      · exact Int.le_trans hxy (h1 z hz)
    · rename_i hxy
      refine List.pairwise_cons.2 ⟨fun z hz => ?_, insSorted_sorted x l h2⟩
      rcases List.mem_cons.1 ((insSorted_perm x l).mem_iff.1 hz) with rfl | hz
      · omega
      · exact h1 z hz
theorem sortI_sorted : ∀ l, (sortI l).Pairwise (· ≤ ·)
  | [] => .nil
  | x :: l => insSorted_sorted x _ (sortI_sorted l)
theorem sortI_eq {l l' : List Int} (h : l.Perm l') : l.mergeSort (fun x y => decide (x ≤ y)) = sortI l' := by
  refine List.Perm.eq_of_pairwise (le := fun a b : Int => a ≤ b) (fun a b _ _ h1 h2 => Int.le_antisymm h1 h2) ?_ (sortI_sorted l') (((List.mergeSort_perm l _).trans h).trans (sortI_perm l').symm)
  have := List.pairwise_mergeSort (le := fun x y : Int => decide (x ≤ y)) (fun a b c h1 h2 => by simp only [decide_eq_true_eq] at *; omega) (fun a b => by simp only [Bool.or_eq_true, decide_eq_true_eq]; omega) l
  exact this.imp fun h => by simpa using h
theorem ints_length : ∀ l, (ints l).length = l.length
  | [] => rfl
  | _ :: l => by simp [ints, ints_length l]
theorem ints_lget (d : V) : ∀ (l : List Int) (i : Nat) (h : i < l.length), lget d (ints l) i = .int .i64 l[i]
  | [], i, h => by simp at h
  | x :: l, 0, _ => rfl
  | x :: l, i + 1, h => by
    have := ints_lget d l i (by simpa using h)
    exact this

theorem wf_i64 {n : Int} (h1 : -9223372036854775808 ≤ n) (h2 : n ≤ 9223372036854775807) : (Lit.int .i64 n).wf = true := by
  simp [Lit.wf, IntKind.min, IntKind.max, IntKind.signed, IntKind.bits]; omega

theorem keysI_spec {μ : Mu} : ∀ {es : List (V × V)} {l : List MapEntry} {ks : List Int}, keysI es = some ks → EntRs μ es l →
    l.map (·.key) = ks.map encZ ∧ es.map (·.1) = ints ks ∧ ∀ k ∈ ks, (Lit.int .i64 k).wf = true
  | [], l, ks, hk, he => by
    simp only [keysI, Option.some.injEq] at hk; subst hk
    simp only [EntRs] at he; subst he
    exact ⟨rfl, rfl, by simp⟩
  | p :: es, l, ks, hk, he => by
    simp only [EntRs] at he
    obtain ⟨e, r, rfl, h1, h2, h3⟩ := he
    unfold keysI at hk
    split at hk
    · rename_i n hp
      cases hr : keysI es with
      | none => simp [hr] at hk
      | some ks' =>
        simp only [hr] at hk
        cases hb : (decide (-9223372036854775808 ≤ n) && decide (n ≤ 9223372036854775807)) with
        | false => simp [hb] at hk
        | true =>
          simp only [hb, cond_true, Option.some.injEq] at hk
          subst hk
          simp only [Bool.and_eq_true, decide_eq_true_eq] at hb
          obtain ⟨h4, h5, h6⟩ := keysI_spec hr h3
          rw [hp] at h1
          refine ⟨by simp [h4, h1.int], by simp [hp, ints, h5], fun k hk => ?_⟩
          rcases List.mem_cons.1 hk with rfl | hk
          · exact wf_i64 hb.1 hb.2
          · exact h6 k hk
    · cases hk

theorem keysI_nodup : ∀ {es : List (V × V)} {ks : List Int}, Apart es → es.map (·.1) = ints ks → ks.Nodup
  | [], ks, _, h => by
    cases ks with
    | nil => exact .nil
    | cons x l => simp [ints] at h
  | p :: es, ks, ha, h => by
    cases ks with
    | nil => simp [ints] at h
    | cons x l =>
      simp only [ints, List.map_cons, List.cons.injEq] at h
      obtain ⟨h1, h2⟩ := h
      simp only [Apart] at ha
      refine List.nodup_cons.2 ⟨fun hx => ?_, keysI_nodup ha.2 h2⟩
      have : V.int .i64 x ∈ es.map (·.1) := by
        rw [h2]
        clear h1 h2 ha
        induction l with
        | nil => simp at hx
        | cons y l ih =>
          rcases List.mem_cons.1 hx with rfl | hx
          · simp [ints]
          · simp [ints, ih hx]
      obtain ⟨q, hq, hqe⟩ := List.mem_map.1 this
      have := (ha.1 q hq).1
      rw [h1, hqe] at this
      simp [keyEq, eqC] at this

/-- what is asked of slices.Sorted at a map's keys -/
def SortedSpec (P : Program) (sf kf : Nat) (K : TypeId) : Prop :=
  ∀ (Bm b nn : Nat) (D0 : DataW Unit) (R : Value → Option (DataW Unit × List MemPlace)) (w : World), Bm < w.heap.size → w.cell? ⟨Bm, 0, none⟩ = some (.map (some b)) → w.ownsMap P K R b nn D0 →
    Maps.size D0 ≤ maxLen → Maps.size D0 * 8 ≤ 140737488355328 →
    Calls P sf #[.func (.func kf) #[] #[.pointer (some ⟨Bm, 0, none⟩)]] w fun e w' => ∃ (v : Value) (ss : List Int), e = .returned v ∧ ss.Perm (intKeys D0) ∧
      w'.ownsRow w.heap.size K 1 v ss.length ((ss.mergeSort (fun x y => decide (x ≤ y))).map encZ) ∧ (v = .slice none 0 0 ↔ ss = []) ∧ Below w.heap.size w w'

theorem orcSorted_ok {P : Tb} {sf kf : Nat} {K : TypeId} (hK : P.P.underlying K = some (.int .i64)) (hs : SortedSpec P.P sf kf K) {args : List V} {h : H} {m : M V} {μ : Mu} {w : World} {args' : Array Value}
    (ho : orcSorted kf args h = some m) (r : RR μ h w.heap) (hv : VRs μ args args'.toList) : CallsIn Fence.wide 0 P.P sf args' w (ValQ μ h w m.list) := by
  unfold orcSorted at ho
  split at ho
  case h_2 => cases ho
  rename_i g b
  cases hg : Nat.beq g kf with
  | false => rw [hg] at ho; cases ho
  | true =>
  rw [hg] at ho; simp only [cond_true] at ho
  have := Nat.eq_of_beq_eq_true hg; subst this
  split at ho
  case h_2 => cases ho
  rename_i n m0 l d hgb
  cases hn : Nat.blt 0 n with
  | false => rw [hn] at ho; cases ho
  | true =>
  rw [hn] at ho; simp only [cond_true] at ho
  split at ho
  case h_2 => cases ho
  rename_i ver es hgm
  cases hk : keysI es with
  | none => rw [hk] at ho; cases ho
  | some ks =>
  simp only [hk] at ho
  cases hl : Nat.ble ks.length 65536 with
  | false => rw [hl] at ho; cases ho
  | true =>
  rw [hl] at ho; simp only [cond_true] at ho
  -- the arguments
  simp only [VRs] at hv
  obtain ⟨v1, _, he, h1, rfl⟩ := hv
  have hargs : args' = #[v1] := by apply Array.ext'; simpa using he
  subst hargs
  obtain ⟨xs, ys, rfl, h2, h3⟩ := h1.clo
  simp only [VRs] at h2 h3
  have hxs : xs = #[] := by apply Array.ext'; simpa using h2
  subst hxs
  obtain ⟨v2, _, he2, h4, rfl⟩ := h3
  have hys : ys = #[v2] := by apply Array.ext'; simpa using he2
  subst hys
  obtain ⟨L, hb, rfl⟩ := h4.ptr
  -- the variable
  have hob := r.obj b L hb
  rw [hgb] at hob
  obtain ⟨c, e, fr, g1, g2, g3, g4, g5, g6⟩ := hob
  have hbase := r.zb b L hb g3
  have hblt := r.lt b L hb
  obtain ⟨v3, g7, g8⟩ := g5 0 (Nat.le_of_ble_eq_true hn)
  obtain ⟨Lm, hm, rfl⟩ := VR.mp g8
  -- the map
  have hom := r.obj m0 Lm hm
  rw [hgm] at hom
  obtain ⟨ents, clk, k1, k2⟩ := hom
  obtain ⟨le, k3, k4⟩ := k2.rel
  obtain ⟨k5, k6, k7⟩ := keysI_spec hk k4
  have hnd : ks.Nodup := keysI_nodup k2.apart k6
  have hlen : ents.size = ks.length := by
    have a1 := k3.length_eq
    have a2 := congrArg List.length k5
    simp at a1 a2; omega
  have hkl : ks.length ≤ 65536 := Nat.le_of_ble_eq_true hl
  let R : Value → Option (DataW Unit × List MemPlace) := fun _ => some (.nil, [])
  let D0 : DataW Unit := .map ((ents.toList.map (Go.WideElems.rg P.P K R)).foldr DataW.insert [])
  have hrd : ∀ x ∈ ents.toList, ∃ k, k ∈ ks ∧ x.key = encZ k := fun x hx => by
    have : x.key ∈ le.map (·.key) := List.mem_map.2 ⟨x, k3.mem_iff.2 hx, rfl⟩
    rw [k5] at this
    obtain ⟨k, hk1, hk2⟩ := List.mem_map.1 this
    exact ⟨k, hk1, hk2.symm⟩
  have hrdk : ∀ k, k ∈ ks → keyOf P.P K (encZ k) = some (.int .i64 k) := fun k hk1 => Go.Maps.keyOf_int_mk hK (k7 k hk1)
  have hown : w.ownsMap P.P K R Lm.blk ents.size D0 := by
    refine ⟨ents, clk, k1, ⟨by unfold maxLen; omega, ⟨k2.born, k2.nodup, ?_⟩, fun x hx => ?_⟩, Nat.le_refl _, rfl⟩
    · rw [← (k3.map _).nodup_iff, k5]
      exact List.Pairwise.map _ (fun a b hab h => hab (by simpa using h)) hnd
    · obtain ⟨k, hk1, hk2⟩ := hrd x hx
      exact ⟨(.int .i64 k, .nil), by simp [Go.WideElems.rd, hk2, hrdk k hk1, R]⟩
  have hsz : Maps.size D0 = ks.length := by
    show List.length _ = _
    rw [(Go.WideShapes.sorted_perm _).length_eq, List.length_map]; simpa using hlen
  have hperm : (intKeys D0).Perm ks := by
    show (List.map _ _).Perm ks
    refine ((Go.WideShapes.sorted_perm _).map _).trans ?_
    rw [List.map_map]
    refine (k3.symm.map _).trans ?_
    have : le.map ((fun p : Lit × DataW Unit => Go.intOf p.1) ∘ Go.WideElems.rg P.P K R) = ks := by
      have e1 : le.map ((fun p : Lit × DataW Unit => Go.intOf p.1) ∘ Go.WideElems.rg P.P K R) = (le.map (·.key)).map fun v => match v with | .int _ a => a | _ => 0 := by
        rw [List.map_map]
        refine List.map_congr_left fun x hx => ?_
        obtain ⟨k, hk1, hk2⟩ := hrd x (k3.mem_iff.1 hx)
        simp [Go.WideElems.rg, Go.WideElems.rd, hk2, hrdk k hk1, R, Go.intOf]
      rw [e1, k5, List.map_map]
      conv => rhs; rw [← List.map_id ks]
      exact List.map_congr_left fun x _ => rfl
    rw [this]
  have hcell : w.cell? ⟨L.blk, 0, none⟩ = some (.map (some Lm.blk)) := by
    unfold World.cell?
    simp only [g1]
    rw [hbase] at g7
    simpa using g7
  have hc := hs L.blk Lm.blk ents.size D0 R w hblt hcell hown (by rw [hsz]; unfold maxLen; omega) (by rw [hsz]; omega)
  rw [hbase]
  refine callsIn_wide.2 (hc.mono ?_)
  rintro e1 w' ⟨v, ss, rfl, q1, q2, q3, q4⟩
  have hp2 := q1.trans hperm
  have hss : ss.length = ks.length := hp2.length_eq
  cases ks with
  | nil =>
    cases ho
    have : ss = [] := List.eq_nil_of_length_eq_zero hss
    obtain rfl := q3.2 this
    exact ⟨.nils 0 0, _, h, μ, rfl, by simp [M.list], r.grown q4, by simp [VR]⟩
  | cons k0 ks0 =>
    cases ho
    rw [sortI_eq hp2] at q2
    obtain ⟨q5, q6 | ⟨gb, cap, cur, rfl, p1, p2, p3, p4, p5, p6⟩⟩ := q2
    · rw [hss] at q6; simp at q6
    · have hgl : gb < w'.heap.size := (Array.getElem?_eq_some_iff.1 p2).1
      refine ⟨_, _, _, muNew μ h.next ⟨gb, 0, cap, 1⟩, rfl, List.mem_singleton.2 rfl, r.newAt q4 _ _ p1 hgl (fun _ _ _ _ => by simp) ?_ (fun e => by simp at e), ?_⟩
      · refine ⟨cur, K, (0, 0), p2, by simpa using p5, rfl, ?_, fun i hi => ?_, .inl (.inl rfl)⟩
        · simp only [Nat.zero_add]; rw [p5]; omega
        · have hi2 : i < (sortI (k0 :: ks0)).length := by rw [(sortI_perm _).length_eq]; exact hi
          refine ⟨encZ ((sortI (k0 :: ks0))[i]'hi2), ?_, by rw [ints_lget _ _ _ hi2]; simp [VR, encZ]⟩
          have e2 : (cur.toList.take (ss.length * 1))[i]? = some (encZ ((sortI (k0 :: ks0))[i]'hi2)) := by
            rw [p6, List.getElem?_map, List.getElem?_eq_getElem hi2]; rfl
          rw [List.getElem?_take] at e2
          split at e2
          · simpa using e2
          · cases e2
      · rw [hss]
        simp only [VR]
        refine ⟨_, ⟨gb, 0, none⟩, cap, muNew_same _ _ _, rfl, ⟨by omega, fun e => (by cases e), by omega, rfl, rfl, .inr rfl, fun _ => by simp [p5]⟩⟩
end Ae

namespace Ae
open Go Go.RowKit

/-! ### a run of cells written -/
theorem sets_far {g : Nat} : ∀ (vs : List Value) (o : Nat) {w : World} (k : Nat), k ≠ g → (w.setCells g o vs).heap[k]? = w.heap[k]?
  | [], _, _, _, _ => rfl
  | v :: r, o, w, k, hk => by
    rw [World.setCells, sets_far r (o + 1) k hk]
    exact Below.heap_setCell w ⟨g, o, none⟩ v k hk
theorem sets_same (g : Nat) : ∀ (vs : List Value) (o : Nat) (w : World), (w.setCells g o vs).os = w.os ∧ (w.setCells g o vs).tape = w.tape ∧ (w.setCells g o vs).output = w.output ∧ (w.setCells g o vs).heap.size = w.heap.size
  | [], _, _ => ⟨rfl, rfl, rfl, rfl⟩
  | v :: r, o, w => by
    obtain ⟨h1, h2, h3, h4⟩ := sets_same g r (o + 1) (w.setCell ⟨g, o, none⟩ v)
    rw [World.setCells]
    exact ⟨h1, h2, h3, by rw [h4]; simp [World.setCell]⟩
theorem sets_row {g : Nat} {e : TypeId} {fr : Nat × Nat} : ∀ (vs : List Value) (o : Nat) (w : World) (cur : Array Value), w.heap[g]? = some (.cells cur e fr) → o + vs.length ≤ cur.size →
    ∃ cur', (w.setCells g o vs).heap[g]? = some (.cells cur' e fr) ∧ cur'.size = cur.size ∧ ∀ j, cur'[j]? = if o ≤ j ∧ j < o + vs.length then vs[j - o]? else cur[j]?
  | [], o, w, cur, h, _ => ⟨cur, h, rfl, fun j => by rw [if_neg (by simp only [List.length_nil]; omega)]⟩
  | v :: r, o, w, cur, h, hl => by
    have h2 : (w.setCell ⟨g, o, none⟩ v).heap[g]? = some (.cells (cur.setIfInBounds o v) e fr) := by
      simp [World.setCell, Array.getElem?_modify, h]
    simp only [List.length_cons] at hl
    obtain ⟨cur', h3, h4, h5⟩ := sets_row r (o + 1) (w.setCell ⟨g, o, none⟩ v) _ h2 (by simp; omega)
    refine ⟨cur', h3, by rw [h4]; simp, fun j => ?_⟩
    rw [h5, Array.getElem?_setIfInBounds]
    simp only [List.length_cons]
    by_cases hj : o + 1 ≤ j ∧ j < o + 1 + r.length
    · rw [if_pos hj, if_pos (by omega)]
      have : j - o = (j - (o + 1)) + 1 := by omega
      rw [this, List.getElem?_cons_succ]
    · rw [if_neg hj]
      by_cases hjo : o = j
      · subst hjo
        rw [if_pos rfl, if_pos (by omega), if_pos (by omega)]
        simp
      · rw [if_neg hjo, if_neg (by omega)]

/-! ### slices.Insert of one element, ahead of the end -/
/-- there is room -/
def InsShift (P : Program) (f : Nat) : Prop :=
  ∀ (b off n c i vb voff vc : Nat) (cs : List Value) (v : Value) (w : World), i < n → n ≤ 65536 → n + 1 ≤ c → vb ≠ b → cs.length = n → (∀ j u, cs[j]? = some u → w.cell? ⟨b, off + j, none⟩ = some u) →
    (∀ j, j < n + 1 → (w.cell? ⟨b, off + j, none⟩).isSome = true) → (∀ j, j < n + 1 → w.frozen? ⟨b, off + j, none⟩ = false) → w.cell? ⟨vb, voff, none⟩ = some v → (∀ u ∈ cs, u.oneCell' = true) → v.oneCell' = true →
    (∃ tA kA tB kB, w.shape? vb = some (tA, kA) ∧ w.shape? b = some (tB, kB) ∧ kB ≠ 0 ∧ w.frozen? ⟨vb, voff, none⟩ = false ∧ w.frozen? ⟨vb, kA, none⟩ = false) →
    Calls P f #[.slice (some ⟨b, off, none⟩) n c, .int .i64 i, .slice (some ⟨vb, voff, none⟩) 1 vc] w fun e w' =>
      e = .returned (.slice (some ⟨b, off, none⟩) (n + 1) c) ∧ w' = (w.drew.setCells b (off + (i + 1)) (cs.drop i)).setCells b (off + i) [v]
/-- there is none -/
def InsGrow (P : Program) (f : Nat) : Prop :=
  ∀ (b off n i vb voff vc : Nat) (cs : List Value) (v : Value) (w : World), i < n → n ≤ 65536 → cs.length = n → (∀ j u, cs[j]? = some u → w.cell? ⟨b, off + j, none⟩ = some u) →
    w.cell? ⟨vb, voff, none⟩ = some v → (∀ u ∈ cs, u.oneCell' = true) → v.oneCell' = true →
    Calls P f #[.slice (some ⟨b, off, none⟩) n n, .int .i64 i, .slice (some ⟨vb, voff, none⟩) 1 vc] w fun e w' =>
      ∃ G row el, e = .returned (.slice (some ⟨w.heap.size, 0, none⟩) (n + 1) G) ∧ n + 1 ≤ G ∧ row.size = G ∧
        w' = (((w.alloc (.cells row el)).drew.setCells w.heap.size i [v]).drew).setCells w.heap.size (i + 1) (cs.drop i) ∧ ∀ j, j < i → row[j]? = cs[j]?

noncomputable def orcInsert (args : List V) (h : H) : Option (M V) :=
  match args with
  | [.sl b off len cap false, .int .i64 (.ofNat i), .sl b2 off2 1 _ _] =>
    bif Nat.beq cap len && Nat.blt i len && Nat.ble len 65536 && !(Nat.beq b b2) then
    match h.get b, h.load b off len, h.get b2, h.load1 b2 off2 with
    | .cells n 1 _ d, some l, .cells _ _ _ .any, some v => bif Nat.beq n (off + len) && allOne l && v.oneCell && notB (isRo d) then
        some (.one (.sl h.next 0 (len + 1) (len + 1) false) ((h.put b .dead).new (.cells (len + 1) 1 (l.take i ++ v :: l.drop i) d))) else none
    | _, _, _, _ => none
    else none
  | _ => none

theorem VRs.take {μ : Mu} : ∀ {l : List V} {vs : List Value} (n : Nat), VRs μ l vs → VRs μ (l.take n) (vs.take n)
  | _, _, 0, _ => by simp [VRs]
  | [], vs, n + 1, h => by simp only [VRs] at h; subst h; simp [VRs]
  | x :: l, vs, n + 1, h => by
    simp only [VRs] at h
    obtain ⟨y, ys, rfl, h1, h2⟩ := h
    simp only [List.take_succ_cons, VRs]
    exact ⟨y, _, rfl, h1, h2.take n⟩
theorem VRs.drop {μ : Mu} : ∀ {l : List V} {vs : List Value} (n : Nat), VRs μ l vs → VRs μ (l.drop n) (vs.drop n)
  | _, _, 0, h => by simpa using h
  | [], vs, n + 1, h => by simp only [VRs] at h; subst h; simp [VRs]
  | x :: l, vs, n + 1, h => by
    simp only [VRs] at h
    obtain ⟨y, ys, rfl, h1, h2⟩ := h
    exact h2.drop n
theorem one_vr {μ : Mu} {v : V} {u : Value} (h : VR μ v u) (ho : v.oneCell = true) : u.oneCell' = true := by
  have h1 : VRs μ [v] [u] := by simp only [VRs]; exact ⟨u, [], rfl, h, rfl⟩
  have h2 : allOne [v] = true := by show sel v.oneCell true false = true; rw [ho]; rfl
  exact allOne_vr (vs := [u]) h1 h2 u (by simp)

theorem cells_frozen {w : World} {b k : Nat} {c : Array Value} {e : TypeId} {fr : Nat × Nat} (hb : w.heap[b]? = some (.cells c e fr)) (hf : fr.1 = fr.2 ∨ k < fr.1) : w.frozen? ⟨b, k, none⟩ = false := by
  unfold World.frozen?
  simp only [hb]
  obtain ⟨lo, hi⟩ := fr
  simp only at hf ⊢
  simp only [Bool.and_eq_false_iff, decide_eq_false_iff_not]
  omega

theorem orcInsert_ok {P : Tb} {f : Nat} (hS : InsShift P.P f) (hG : InsGrow P.P f) {args : List V} {h : H} {m : M V} {μ : Mu} {w : World} {args' : Array Value}
    (ho : orcInsert args h = some m) (r : RR μ h w.heap) (hv : VRs μ args args'.toList) : CallsIn Fence.wide 0 P.P f args' w (ValQ μ h w m.list) := by
  unfold orcInsert at ho
  split at ho
  case h_2 => cases ho
  rename_i b off len cap i b2 off2 cap2 ex2
  cases hc : (Nat.beq cap len && Nat.blt i len && Nat.ble len 65536 && !(Nat.beq b b2)) with
  | false => rw [hc] at ho; cases ho
  | true =>
  rw [hc] at ho; simp only [cond_true] at ho
  simp only [Bool.and_eq_true] at hc
  obtain ⟨⟨⟨hc1, hc2⟩, hc3⟩, hc4⟩ := hc
  have hcl := (Nat.eq_of_beq_eq_true hc1).symm
  have hil : i < len := Nat.le_of_ble_eq_true hc2
  have hlb : len ≤ 65536 := Nat.le_of_ble_eq_true hc3
  have hbb : b ≠ b2 := fun e => by subst e; simp at hc4
  subst hcl
  split at ho
  case h_2 => cases ho
  rename_i n l0 d l n2 es2 l2 v hgb hld hgb2 hl1
  cases hd : (Nat.beq n (off + len) && allOne l && v.oneCell && notB (isRo d)) with
  | false => rw [hd] at ho; cases ho
  | true =>
  rw [hd] at ho; simp only [cond_true, Option.some.injEq] at ho
  subst ho
  simp only [Bool.and_eq_true] at hd
  obtain ⟨⟨⟨hn, hal⟩, hv1⟩, hro⟩ := hd
  have hro : isRo d = false := by rw [notB_eq] at hro; simpa using hro
  have hn := Nat.eq_of_beq_eq_true hn
  -- the arguments
  simp only [VRs] at hv
  obtain ⟨x1, _, he, h1, x2, _, rfl, h2, x3, _, rfl, h3, rfl⟩ := hv
  have hargs : args' = #[x1, x2, x3] := by apply Array.ext'; simpa using he
  subst hargs
  obtain ⟨L, a, c', hL, rfl, hsl⟩ := h1.sl
  cases h2.int
  obtain ⟨L2, a2, c2', hL2, rfl, hsl2⟩ := h3.sl
  have ha : a = ⟨L.blk, L.base + off, none⟩ := by
    rcases hsl.at_ with e0 | e0
    · have := hsl.le; omega
    · exact e0
  have ha2 : a2 = ⟨L2.blk, L2.base + off2, none⟩ := by
    rcases hsl2.at_ with e0 | e0
    · have := hsl2.len; omega
    · exact e0
  subst ha ha2
  have hne : L2.blk ≠ L.blk := fun e => r.sep b b2 L L2 hL hL2 hbb (by rw [hgb]; rfl) (by rw [hgb2]; rfl) e.symm
  -- the rows
  obtain ⟨arr, et, fr, g1, g2, g3, g4⟩ := load_vr r hL hld
  have hob := r.obj b L hL
  rw [hgb] at hob
  obtain ⟨c0, e0, fr0, p1, p2, p3, p4, p5, p6⟩ := hob
  rw [g1] at p1; cases p1
  obtain ⟨c2, e2, fr2, u, k1, q1, q2⟩ := load1_vr r hL2 hl1
  have hob2 := r.obj b2 L2 hL2
  rw [hgb2] at hob2
  obtain ⟨c3, e3, fr3, k0, k2, k3, k4, k5, k6⟩ := hob2
  rw [k1] at k0; cases k0
  have k6 : fr2.1 = fr2.2 := (k6.resolve_right (fun e => by cases e)).elim id fun e => by cases e.2
  have p6 := p6.resolve_right fun e0 => by rw [e0] at hro; cases hro
  have hroom := hsl.room rfl
  rw [p3] at hroom
  let cs := (arr.extract (L.base + off) (L.base + off + len)).toList
  have hcs : cs.length = len := by simp [cs]; omega
  have hcsv : VRs μ l cs := g4
  have hcell : ∀ k, k < arr.size → w.cell? ⟨L.blk, k, none⟩ = arr[k]? := fun k hk => by
    unfold World.cell?; simp [g1]
  have hcs1 : ∀ j u, cs[j]? = some u → w.cell? ⟨L.blk, L.base + off + j, none⟩ = some u := fun j u hj => by
    have hjl : j < len := by have := (List.getElem?_eq_some_iff.1 hj).1; omega
    rw [hcell _ (by omega)]
    simp only [cs, Array.getElem?_toList, Array.getElem?_extract] at hj
    split at hj
    · exact hj
    · cases hj
  have hone : ∀ x ∈ cs, x.oneCell' = true := allOne_vr hcsv hal
  have honev : u.oneCell' = true := one_vr q2 hv1
  have hk := r.kill hL hgb hro
  have hlt := r.lt b L hL
  have hdrop : (cs.drop i).length = len - i := by rw [List.length_drop, hcs]
  have hll : l.length = len := by rw [hcsv.length, hcs]
  have hrel : VRs μ (l.take i ++ v :: l.drop i) (cs.take i ++ u :: cs.drop i) := by
    refine (hcsv.take i).app ?_
    simp only [VRs]
    exact ⟨u, _, rfl, q2, hcsv.drop i⟩
  -- how the new row reads
  have hread : ∀ j, j < len + 1 → ∃ x, (cs.take i ++ u :: cs.drop i)[j]? = some x ∧ VR μ (lget d (l.take i ++ v :: l.drop i) j) x := fun j hj =>
    hrel.get j d (by simp only [List.length_append, List.length_cons, List.length_take, List.length_drop]; omega)
  have hnew : ∀ j, j < len + 1 → (cs.take i ++ u :: cs.drop i)[j]? = if j < i then cs[j]? else if j = i then some u else (cs.drop i)[j - (i + 1)]? := fun j hj => by
    have hti : (cs.take i).length = i := by rw [List.length_take]; omega
    by_cases h1 : j < i
    · rw [if_pos h1, List.getElem?_append_left (by omega), List.getElem?_take, if_pos h1]
    · rw [if_neg h1, List.getElem?_append_right (by omega), hti]
      by_cases h2 : j = i
      · rw [if_pos h2, h2]; simp
      · rw [if_neg h2]
        have : j - i = (j - (i + 1)) + 1 := by omega
        rw [this, List.getElem?_cons_succ]
  by_cases hfit : len + 1 ≤ c'
  · -- in place
    have hc := hS L.blk (L.base + off) len c' i L2.blk (L2.base + off2) c2' cs u w hil hlb hfit hne hcs hcs1
      (fun j hj => by rw [hcell _ (by omega), Array.getElem?_eq_getElem (by omega)]; rfl)
      (fun j hj => cells_frozen g1 (p6.imp id fun e => by omega))
      (by unfold World.cell?; simp only [k1]; simpa using q1) hone honev
      ⟨e2, c2.size, et, arr.size, by unfold World.shape?; rw [k1], by unfold World.shape?; rw [g1], by omega, cells_frozen k1 (.inl k6), cells_frozen k1 (.inl k6)⟩
    refine callsIn_wide.2 (hc.mono ?_)
    rintro e1 w' ⟨rfl, hw⟩
    obtain ⟨r1, s1, s2, s3⟩ := sets_row (cs.drop i) (L.base + off + (i + 1)) w.drew arr g1 (by rw [hdrop]; omega)
    obtain ⟨r2, t1, t2, t3⟩ := sets_row [u] (L.base + off + i) _ r1 s1 (by simp; omega)
    rw [← hw] at t1
    have hfar : ∀ k, k ≠ L.blk → w'.heap[k]? = w.heap[k]? := fun k hk => by rw [hw, sets_far _ _ _ hk, sets_far _ _ _ hk]; rfl
    obtain ⟨m1, m2, m3, m4⟩ := sets_same L.blk [u] (L.base + off + i) (w.drew.setCells L.blk (L.base + off + (i + 1)) (cs.drop i))
    obtain ⟨m5, m6, m7, m8⟩ := sets_same L.blk (cs.drop i) (L.base + off + (i + 1)) w.drew
    rw [← hw] at m1 m2 m3 m4
    have hp := hk.rr.share (w' := w') (blk := L.blk) (fun b3 L3 h3 hb3 => by
        rw [H.get_put]
        by_cases hbb3 : b3 = b
        · rw [if_pos hbb3]; rfl
        · rw [if_neg hbb3]
          cases hl3 : isLive (h.get b3) with
          | false => rfl
          | true => exact absurd hb3 (r.sep b3 b L3 L h3 hL hbb3 hl3 (by rw [hgb]; rfl))) ⟨b, L, hL, rfl, by rw [H.get_put, if_pos rfl]; rfl⟩ (len + 1) 1 (l.take i ++ v :: l.drop i) d ⟨L.blk, L.base + off, L.csz, 1⟩ rfl
      ⟨r2, et, fr, t1, by show r2.size = L.csz; omega, rfl, by show L.base + off + (len + 1) ≤ r2.size; omega, fun j hj => by
        obtain ⟨x, hx1, hx2⟩ := hread j hj
        refine ⟨x, ?_, hx2⟩
        rw [hnew j hj] at hx1
        show r2[L.base + off + j]? = some x
        rw [t3, ← hx1]
        simp only [List.length_cons, List.length_nil]
        by_cases h1 : j = i
        · subst h1
          rw [if_pos (by omega), if_neg (by omega), if_pos rfl]; simp
        · rw [if_neg (by omega), s3, hdrop]
          by_cases h2 : j < i
          · rw [if_neg (by omega), if_pos h2]
            simp only [cs, Array.getElem?_toList, Array.getElem?_extract]
            rw [if_pos (by omega)]
          · rw [if_pos (by omega), if_neg h2, if_neg h1]
            congr 1; omega, .inl (p6.imp_right fun e => ⟨by omega, e.2⟩)⟩
      (by rw [m4, m8]; rfl) hfar (m2.trans m6) (m1.trans m5) (m3.trans m7) (fun e => by cases e)
    have hp2 := hk.trans hp
    rw [H.next_put] at hp2
    refine ⟨_, _, _, _, rfl, List.mem_singleton.2 rfl, hp2, ?_⟩
    simp only [VR]
    exact ⟨_, _, c', muNew_same _ _ _, rfl, hfit, fun e => (by cases e), hfit, rfl, rfl, .inr rfl, fun _ => (by show L.base + off + 0 + c' * 1 ≤ L.csz; omega)⟩
  · -- a row anew
    have hcn : c' = len := by have := hsl.le; omega
    subst hcn
    have hc := hG L.blk (L.base + off) c' i L2.blk (L2.base + off2) c2' cs u w hil hlb hcs hcs1 (by unfold World.cell?; simp only [k1]; simpa using q1) hone honev
    refine callsIn_wide.2 (hc.mono ?_)
    rintro e1 w' ⟨G, row, el, rfl, o1, o2, hw, o3⟩
    have hnewb : ((w.alloc (.cells row el)).drew).heap[w.heap.size]? = some (.cells row el (0, 0)) := push_new
    obtain ⟨r1, s1, s2, s3⟩ := sets_row [u] i (w.alloc (.cells row el)).drew row hnewb (by simp; omega)
    obtain ⟨r2, t1, t2, t3⟩ := sets_row (cs.drop i) (i + 1) (((w.alloc (.cells row el)).drew.setCells w.heap.size i [u]).drew) r1 s1 (by rw [hdrop]; omega)
    rw [← hw] at t1
    obtain ⟨m1, m2, m3, m4⟩ := sets_same w.heap.size (cs.drop i) (i + 1) (((w.alloc (.cells row el)).drew.setCells w.heap.size i [u]).drew)
    obtain ⟨m5, m6, m7, m8⟩ := sets_same w.heap.size [u] i (w.alloc (.cells row el)).drew
    rw [← hw] at m1 m2 m3 m4
    have hsize : w'.heap.size = w.heap.size + 1 := by
      rw [m4]; show ((w.alloc (.cells row el)).drew.setCells w.heap.size i [u]).heap.size = _
      rw [m8]; simp
    have hbel : Below w.heap.size w w' := ⟨m1.trans m5, m2.trans m6, m3.trans m7, by omega, fun k hk => by
      rw [hw, sets_far _ _ _ (by omega)]
      show ((w.alloc (.cells row el)).drew.setCells w.heap.size i [u]).heap[k]? = _
      rw [sets_far _ _ _ (by omega)]
      exact push_old hk⟩
    have hp := hk.rr.newAt hbel (.cells (c' + 1) 1 (l.take i ++ v :: l.drop i) d) ⟨w.heap.size, 0, G, 1⟩ (Nat.le_refl _) (by show w.heap.size < _; omega) (fun _ _ _ _ => by simp)
      ⟨r2, el, (0, 0), t1, by show r2.size = G; omega, rfl, by show 0 + (c' + 1) ≤ r2.size; omega, fun j hj => by
        obtain ⟨x, hx1, hx2⟩ := hread j hj
        refine ⟨x, ?_, VR.mono (hk.rr.sub_new _) _ _ hx2⟩
        rw [hnew j hj] at hx1
        show r2[0 + j]? = some x
        rw [Nat.zero_add, t3, ← hx1, hdrop]
        by_cases h1 : j = i
        · subst h1
          rw [if_neg (by omega), s3, if_pos (by simp), if_neg (by omega), if_pos rfl]; simp
        · by_cases h2 : j < i
          · rw [if_neg (by omega), s3, if_neg (by simp; omega), if_pos h2]; exact o3 j h2
          · rw [if_pos (by omega), if_neg h2, if_neg h1], .inl (.inl rfl)⟩ (fun e => by cases e)
    have hp2 := hk.trans hp
    rw [H.next_put] at hp2
    refine ⟨_, _, _, _, rfl, List.mem_singleton.2 rfl, hp2, ?_⟩
    simp only [VR]
    exact ⟨_, _, G, muNew_same _ _ _, rfl, o1, fun e => (by cases e), o1, rfl, rfl, .inr rfl, fun _ => (by show 0 + 0 + G * 1 ≤ G; omega)⟩
end Ae

namespace Ae
open Go Go.RowKit

/-! ### a program's tables as tries -/
noncomputable def trieOf {α : Type} : List α → Nat → T α → T α
  | [], _, t => t
  | x :: l, i, t => trieOf l (i + 1) (T.set t i x)
noncomputable def mkT {α : Type} (l : List α) : T α := trieOf l 0 .nil
theorem get_trieOf {α : Type} : ∀ (l : List α) (i : Nat) (t : T α) (k : Nat), T.get (trieOf l i t) k = if i ≤ k ∧ k < i + l.length then l[k - i]? else T.get t k
  | [], i, t, k => by rw [if_neg (by simp only [List.length_nil]; omega)]; rfl
  | x :: l, i, t, k => by
    show T.get (trieOf l (i + 1) (T.set t i x)) k = _
    rw [get_trieOf l (i + 1), T.get_set, List.length_cons]
    by_cases h1 : k = i
    · subst h1
      rw [if_neg (by omega), if_pos rfl, if_pos (by omega)]; simp
    · rw [if_neg h1]
      by_cases h2 : i + 1 ≤ k ∧ k < i + 1 + l.length
      · rw [if_pos h2, if_pos (by omega)]
        have : k - i = (k - (i + 1)) + 1 := by omega
        rw [this, List.getElem?_cons_succ]
      · rw [if_neg h2, if_neg (by omega)]
theorem getP_nil {α : Type} (p : Pth) : T.getP p (T.nil : T α) = none := by cases p <;> rfl
theorem get_mkT {α : Type} {l : List α} {k : Nat} {x : α} (h : T.get (mkT l) k = some x) : l[k]? = some x := by
  unfold mkT at h
  rw [get_trieOf] at h
  split at h
  · simpa using h
  · rw [show T.get (T.nil : T α) k = none from getP_nil _] at h; cases h

noncomputable def tbOf (P : Program) (c i m : Nat) : Tb := ⟨P, mkT P.funcs.toList, mkT P.types.toList, c, i, m⟩
theorem tbOf_ok {P : Program} {c i m : Nat} (mixed : P.follows .mixedOrders = true) (names : (P.funcs.toList.all fun fn => !(fn.name == "runtime.NumGoroutine")) = true)
    (cmp : ∀ fn, P.funcs[c]? = some fn → Extern.findNext fn = none ∧ Extern.find fn = some Extern.BytealgCompare.compare)
    (idx : ∀ fn, P.funcs[i]? = some fn → Extern.findNext fn = none ∧ Extern.find fn = some Extern.BytealgIndexByte.indexByte)
    (cln : ∀ fn, P.funcs[m]? = some fn → Extern.findNext fn = none ∧ Extern.find fn = some Extern.MapsClone.clone) : (tbOf P c i m).Ok := by
  have hf : ∀ f fn, (tbOf P c i m).func? f = some fn → P.funcs[f]? = some fn := fun f fn h => by
    have := get_mkT (l := P.funcs.toList) h
    rwa [Array.getElem?_toList] at this
  refine ⟨hf, fun t i h => ?_, mixed, fun f fn h => ?_, fun fn h => cmp fn (hf _ _ h), fun fn h => idx fn (hf _ _ h), fun fn h => cln fn (hf _ _ h)⟩
  · have := get_mkT (l := P.types.toList) h
    rw [Array.getElem?_toList] at this
    show P.toTables.info? t = some i
    unfold Tables.info?
    rw [if_pos (Array.getElem?_eq_some_iff.1 this).1]
    exact this
  · have h1 := List.all_eq_true.1 names fn (List.mem_of_getElem? (by rw [Array.getElem?_toList]; exact hf f fn h))
    simpa using h1

/-! ### a closed run -/
def isTrue (m : M Res) : Bool := match m with
  | .fail => false
  | m => m.list.all fun x => match x.1 with | .val (.bool b) => b | _ => false
theorem isTrue_ne {m : M Res} (h : isTrue m = true) : m ≠ .fail := fun e => by rw [e] at h; cases h
theorem isTrue_all {m : M Res} (h : isTrue m = true) : ∀ v h', (v, h') ∈ resV m.list → v = .bool true := fun v h' hv => by
  have hm := resV_mem.1 hv
  have h1 : (m.list.all fun x => match x.1 with | .val (.bool b) => b | _ => false) = true := by
    cases m with
    | fail => cases h
    | one => exact h
    | many => exact h
  have h2 := List.all_eq_true.1 h1 _ hm
  cases v with
  | bool b => cases b with
    | true => rfl
    | false => cases h2
  | _ => cases h2

theorem RR.empty (hp : Array Obj) : RR (fun _ => none) ⟨0, .nil, []⟩ hp :=
  ⟨fun _ _ e => (by cases e), fun _ _ e => (by cases e), fun _ _ e => (by cases e), fun _ _ _ _ e => (by cases e), fun _ _ _ _ _ _ e => (by cases e), fun b _ => by
    show opt (T.get (T.nil : T O) b) O.dead (fun o => o) = .dead
    rw [show T.get (T.nil : T O) b = none from getP_nil _]; rfl, fun _ _ e => (by cases e), fun _ h => (by cases h)⟩

theorem Post.below {h' : H} {μ' : Mu} {w w' : World} (p : Post (fun _ => none) ⟨0, .nil, []⟩ w μ' h' w') : Below w.heap.size w w' :=
  ⟨p.os, p.tape, p.output, p.size, fun k hk => p.frame k hk fun _ _ e => by cases e⟩

/-- a closed run of the executor that comes to true: the program's call comes to true, whatever the tape -/
theorem closed_true {P : Tb} (ok : P.Ok) {orc : Orc} (horc : OrcOk P orc) {n f : Nat} (hrun : isTrue (run P orc n (.call f []) ⟨0, .nil, []⟩) = true) (w : World) :
    Calls P.P f #[] w fun e w' => e = .returned (.bool true) ∧ Below w.heap.size w w' := by
  have := (sound ok horc n).call f [] ⟨0, .nil, []⟩ (fun _ => none) w #[] (RR.empty _) (by simp [VRs]) (isTrue_ne hrun)
  refine (callsIn_wide.1 this).mono ?_
  rintro e w' ⟨v, v', h', μ', rfl, hm, hp, hv⟩
  obtain rfl := isTrue_all hrun v h' hm
  exact ⟨by rw [VR.bool hv], hp.below⟩
end Ae

namespace Ae
open Go Go.RowKit

/-! ### where a run with variables begins -/
def symL (n : Int) : Loc := ⟨0, n.toNat, (-n).toNat, 1⟩
/-- the first k numbers are variables -/
def muS (vals : Nat → Int) (k : Nat) : Mu := fun i => if i < k then some (symL (vals i)) else none
theorem val_muS {vals : Nat → Int} {k i : Nat} (h : i < k) : val (muS vals k) i = vals i := by
  unfold val muS
  rw [if_pos h]
  simp only [symL]
  omega
theorem muS_some {vals : Nat → Int} {k i : Nat} (h : i < k) : ∃ L, muS vals k i = some L := ⟨symL (vals i), by unfold muS; rw [if_pos h]⟩
noncomputable def symsT : Nat → T O
  | 0 => .nil
  | n + 1 => T.set (symsT n) n .sy
theorem get_symsT (b : Nat) : ∀ k, T.get (symsT k) b = if b < k then some .sy else none
  | 0 => by rw [if_neg (by omega)]; exact getP_nil _
  | k + 1 => by
    show T.get (T.set (symsT k) k .sy) b = _
    rw [T.get_set, get_symsT b k]
    by_cases h : b = k
    · rw [if_pos h, if_pos (by omega)]
    · rw [if_neg h]
      by_cases h2 : b < k
      · rw [if_pos h2, if_pos (by omega)]
      · rw [if_neg h2, if_neg (by omega)]
theorem get_syms (n k b : Nat) (pc : List (B × Bool)) : (⟨n, symsT k, pc⟩ : H).get b = if b < k then .sy else .dead := by
  rw [H.get_def]
  show (match T.get (symsT k) b with | some o => o | none => O.dead) = _
  rw [get_symsT]
  split <;> simp_all
theorem RR.start {hp : Array Obj} (h0 : 0 < hp.size) (vals : Nat → Int) {k n : Nat} (hk : k ≤ n) {pc : List (B × Bool)} (hpc : PcOk (muS vals k) pc) : RR (muS vals k) ⟨n, symsT k, pc⟩ hp := by
  have hs : ∀ b L, muS vals k b = some L → b < k ∧ L = symL (vals b) := fun b L e => by
    unfold muS at e
    split at e
    · rename_i h; cases e; exact ⟨h, rfl⟩
    · cases e
  refine ⟨fun b L e => Nat.lt_of_lt_of_le (hs b L e).1 hk, fun b L e => ?_, fun b L e => ?_, fun b b' L L' e _ _ l _ => ?_, fun b L m ver left cur e hg => ?_, fun b hb => ?_, fun b L e he => ?_, hpc⟩
  · rw [(hs b L e).2]; exact h0
  · rw [get_syms, if_pos (hs b L e).1]; trivial
  · rw [get_syms, if_pos (hs b L e).1] at l; cases l
  · rw [get_syms, if_pos (hs b L e).1] at hg; cases hg
  · rw [get_syms, if_neg (by have : n ≤ b := hb; omega)]
  · rw [(hs b L e).2] at he; cases he
/-- a row that was there -/
theorem RR.bind {μ : Mu} {h : H} {hp : Array Obj} (r : RR μ h hp) (hdead : ∀ b, isLive (h.get b) = false) {id : Nat} (hid : id < h.next) (hμ : μ id = none) {L : Loc} (hL : L.blk < hp.size) {o : O}
    (hit : ∀ m ver left cur, o ≠ .iter m ver left cur) (ho : OR (muNew μ id L) hp L o) (hzb : L.es = 0 → L.base = 0) : RR (muNew μ id L) (h.put id o) hp := by
  have hsub : Sub μ (muNew μ id L) := fun b L' e => by
    have : b ≠ id := fun e1 => by subst e1; rw [hμ] at e; cases e
    rw [muNew_other this]; exact e
  have hlv : ∀ b, b ≠ id → isLive ((h.put id o).get b) = false := fun b hb => by rw [H.get_put, if_neg hb]; exact hdead b
  refine ⟨?_, ?_, ?_, ?_, ?_, ?_, ?_, by rw [H.pc_put]; exact r.pc.mono hsub⟩
  · intro b L' e
    rw [H.next_put]
    by_cases hb : b = id
    · omega
    · rw [muNew_other hb] at e; exact r.dom b L' e
  · intro b L' e
    by_cases hb : b = id
    · subst hb; rw [muNew_same] at e; cases e; exact hL
    · rw [muNew_other hb] at e; exact r.lt b L' e
  · intro b L' e
    by_cases hb : b = id
    · subst hb; rw [muNew_same] at e; cases e; rw [H.get_put, if_pos rfl]; exact ho
    · have := hlv b hb
      cases hg : (h.put id o).get b <;> rw [hg] at this <;> first | trivial | cases this
  · intro b b' L1 L2 _ _ hne l1 l2
    by_cases hb : b = id
    · by_cases hb' : b' = id
      · omega
      · rw [hlv b' hb'] at l2; cases l2
    · rw [hlv b hb] at l1; cases l1
  · intro b L1 m ver left cur _ hg
    by_cases hb : b = id
    · subst hb; rw [H.get_put, if_pos rfl] at hg; exact absurd hg (hit _ _ _ _)
    · have := hlv b hb; rw [hg] at this; cases this
  · intro b hb
    rw [H.next_put] at hb
    rw [H.get_put, if_neg (by omega)]; exact r.up b hb
  · intro b L' e
    by_cases hb : b = id
    · subst hb; rw [muNew_same] at e; cases e; exact hzb
    · rw [muNew_other hb] at e; exact r.zb b L' e

/-- a run with variables that comes to true on every way; what came in is read alone -/
theorem run_true {P : Tb} (ok : P.Ok) {orc : Orc} (horc : OrcOk P orc) {n f : Nat} {args : List V} {h : H} (hrun : isTrue (run P orc n (.call f args) h) = true) {μ : Mu} {w : World} {args' : Array Value}
    (r : RR μ h w.heap) (hv : VRs μ args args'.toList) (hq : ∀ b L, μ b = some L → qRow (h.get b) = true) :
    Calls P.P f args' w fun e w' => e = .returned (.bool true) ∧ Below w.heap.size w w' := by
  have := (sound ok horc n).call f args h μ w args' r hv (isTrue_ne hrun)
  refine (callsIn_wide.1 this).mono ?_
  rintro e w' ⟨v, v', h', μ', rfl, hm, hp, hv⟩
  obtain rfl := isTrue_all hrun v h' hm
  exact ⟨by rw [VR.bool hv], hp.os, hp.tape, hp.output, hp.size, fun k hk => hp.frame k hk fun b L e _ => hq b L e⟩
end Ae
