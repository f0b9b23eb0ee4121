/- The executor against the machine: regions that draw their order; the executor is right. -/
import Derived.Test.YtbjgflfdncikaaaGreatDoorEb
set_option linter.unusedVariables false
set_option linter.unusedSimpArgs false
set_option linter.unusedSectionVars false
namespace Ae
open Go

/-! ### comparing -/
mutual
theorem V.beq_eq : ∀ a b : V, V.beq a b = true → a = b
  | .any, b, h => by cases b <;> first | rfl | (simp [V.beq] at h)
  | .bool x, b, h => by cases b <;> first | (simp [V.beq] at h; done) | (simp [V.beq] at h; rw [h])
  | .int j x, b, h => by cases b <;> first | (simp [V.beq] at h; done) | (simp [V.beq] at h; rw [h.1, h.2])
  | .str x, b, h => by cases b <;> first | (simp [V.beq] at h; done) | (simp [V.beq] at h; rw [h])
  | .nilp, b, h => by cases b <;> first | rfl | (simp [V.beq] at h)
  | .ptr x y, b, h => by cases b <;> first | (simp [V.beq] at h; done) | (simp only [V.beq, Bool.and_eq_true] at h; rw [Nat.eq_of_beq_eq_true h.1, Nat.eq_of_beq_eq_true h.2])
  | .nils x y, b, h => by cases b <;> first | (simp [V.beq] at h; done) | (simp only [V.beq, Bool.and_eq_true] at h; rw [Nat.eq_of_beq_eq_true h.1, Nat.eq_of_beq_eq_true h.2])
  | .sl x y z u e, b, h => by
    cases b <;> first
      | (simp [V.beq] at h; done)
      | (simp only [V.beq, Bool.and_eq_true] at h
         obtain ⟨⟨⟨⟨h1, h2⟩, h3⟩, h4⟩, h5⟩ := h
         rw [Nat.eq_of_beq_eq_true h1, Nat.eq_of_beq_eq_true h2, Nat.eq_of_beq_eq_true h3, Nat.eq_of_beq_eq_true h4, (by simpa using h5 : e = _)])
  | .nilm, b, h => by cases b <;> first | rfl | (simp [V.beq] at h)
  | .mp x, b, h => by cases b <;> first | (simp [V.beq] at h; done) | (simp only [V.beq] at h; rw [Nat.eq_of_beq_eq_true h])
  | .clo f x y, b, h => by
    cases b <;> first
      | (simp [V.beq] at h; done)
      | (simp only [V.beq, Bool.and_eq_true] at h
         rw [Nat.eq_of_beq_eq_true h.1.1, V.beqs_eq x _ h.1.2, V.beqs_eq y _ h.2])
  | .yld x, b, h => by cases b <;> first | (simp [V.beq] at h; done) | (simp only [V.beq] at h; rw [Nat.eq_of_beq_eq_true h])
  | .nilf, b, h => by cases b <;> first | rfl | (simp [V.beq] at h)
  | .ifc t x, b, h => by
    cases b <;> first
      | (simp [V.beq] at h; done)
      | (simp only [V.beq, Bool.and_eq_true] at h; rw [Nat.eq_of_beq_eq_true h.1, V.beq_eq x _ h.2])
  | .nili, b, h => by cases b <;> first | rfl | (simp [V.beq] at h)
  | .agg x, b, h => by cases b <;> first | (simp [V.beq] at h; done) | (simp only [V.beq] at h; rw [V.beqs_eq x _ h])
  | .tup x, b, h => by cases b <;> first | (simp [V.beq] at h; done) | (simp only [V.beq] at h; rw [V.beqs_eq x _ h])
  | .sym k x, b, h => by
    cases b <;> first
      | (simp [V.beq] at h; done)
      | (simp only [V.beq, Bool.and_eq_true] at h; rw [of_decide_eq_true h.1, E.beq_eq h.2])
  | .syb x, b, h => by cases b <;> first | (simp [V.beq] at h; done) | (simp only [V.beq] at h; rw [B.beq_eq h])
  | .sys x, b, h => by cases b <;> first | (simp [V.beq] at h; done) | (simp only [V.beq] at h; rw [E.beqs_eq h])
  | .ost x, b, h => by cases b <;> first | (simp [V.beq] at h; done) | (simp only [V.beq] at h; rw [E.beq_eq h])
  | .osl x, b, h => by cases b <;> first | (simp [V.beq] at h; done) | (simp only [V.beq] at h; rw [E.beq_eq h])
theorem V.beqs_eq : ∀ a b : List V, V.beqs a b = true → a = b
  | [], b, h => by cases b <;> first | rfl | (simp [V.beqs] at h)
  | x :: a, b, h => by
    cases b with
    | nil => simp [V.beqs] at h
    | cons y b => simp only [V.beqs, Bool.and_eq_true] at h; rw [V.beq_eq x y h.1, V.beqs_eq a b h.2]
end
theorem sameO_eq {x y : O} (h : sameO x y = true) : x = y ∧ ∀ m v l c, x ≠ .iter m v l c := by
  cases x <;> cases y <;> simp only [sameO] at h <;> try (cases h; done)
  · simp only [Bool.and_eq_true] at h
    obtain ⟨⟨⟨h1, h2⟩, h3⟩, h4⟩ := h
    rw [Nat.eq_of_beq_eq_true h1, Nat.eq_of_beq_eq_true h2, V.beqs_eq _ _ h3, V.beq_eq _ _ h4]
    exact ⟨rfl, by simp⟩
  · simp only [Bool.and_eq_true] at h
    obtain ⟨⟨h1, h2⟩, h3⟩ := h
    rw [Nat.eq_of_beq_eq_true h1, List.isEmpty_iff.1 h2, List.isEmpty_iff.1 h3]
    exact ⟨rfl, by simp⟩

/-! ### a block that the machine does not have yet -/
theorem RR.ghost {μ : Mu} {h : H} {hp : Array Obj} (r : RR μ h hp) (o : O) : RR μ (h.new o) hp := by
  have hn := r.fresh
  have hne : ∀ b L, μ b = some L → b ≠ h.next := fun b L e e1 => by subst e1; rw [hn] at e; cases e
  refine ⟨fun b L e => by rw [H.next_new]; have := r.dom b L e; omega, r.lt, fun b L e => by rw [H.get_new, if_neg (hne b L e)]; exact r.obj b L e, ?_, ?_, ?_, r.zb, by rw [H.pc_new]; exact r.pc⟩
  · intro b b' L L' e e' hbb l1 l2
    rw [H.get_new, if_neg (hne b L e)] at l1
    rw [H.get_new, if_neg (hne b' L' e')] at l2
    exact r.sep b b' L L' e e' hbb l1 l2
  · intro b L m ver left cur e hg Lm since seen stepped hm hi ver' es hgm
    rw [H.get_new, if_neg (hne b L e)] at hg
    rw [H.get_new, if_neg (hne m Lm hm)] at hgm
    exact r.its b L m ver left cur e hg Lm since seen stepped hm hi ver' es hgm
  · intro b hb
    rw [H.next_new] at hb
    rw [H.get_new, if_neg (by omega)]; exact r.up b (by omega)

/-- the machine catches up with a block -/
theorem RR.catch {μ : Mu} {h : H} {w w' : World} (r : RR μ h w.heap) {id : Nat} (hid : id < h.next) (hμ : μ id = none) {L : Loc} (hL : L.blk = w.heap.size) (hsz : w'.heap.size = w.heap.size + 1)
    (hold : ∀ c, c < w.heap.size → w'.heap[c]? = w.heap[c]?) (ho : OR (muNew μ id L) w'.heap L (h.get id)) (hit : ∀ m v l c, h.get id ≠ .iter m v l c) (hzb : L.es = 0 → L.base = 0) : RR (muNew μ id L) h w'.heap := by
  have hsub : Sub μ (muNew μ id L) := fun b L' e => by
    have : b ≠ id := fun e1 => by subst e1; rw [hμ] at e; cases e
    rw [muNew_other this]; exact e
  refine ⟨?_, ?_, ?_, ?_, ?_, r.up, fun b L' e => ?_, r.pc.mono hsub⟩
  rotate_right
  · by_cases hb : b = id
    · subst hb; rw [muNew_same] at e; cases e; exact hzb
    · rw [muNew_other hb] at e; exact r.zb b L' e
  · intro b L' e
    by_cases hb : b = id
    · omega
    · rw [muNew_other hb] at e; exact r.dom b L' e
  · intro b L' e
    by_cases hb : b = id
    · subst hb; rw [muNew_same] at e; cases e; omega
    · rw [muNew_other hb] at e; have := r.lt b L' e; omega
  · intro b L' e
    by_cases hb : b = id
    · subst hb; rw [muNew_same] at e; cases e; exact ho
    · rw [muNew_other hb] at e
      exact OR.congr (hold _ (r.lt b L' e)) _ (OR.mono hsub _ (r.obj b L' e))
  · intro b b' L1 L2 e1 e2 hne l1 l2
    by_cases hb : b = id <;> by_cases hb' : b' = id
    · omega
    · subst hb; rw [muNew_same] at e1; cases e1; rw [muNew_other hb'] at e2; have := r.lt b' L2 e2; omega
    · subst hb'; rw [muNew_same] at e2; cases e2; rw [muNew_other hb] at e1; have := r.lt b L1 e1; omega
    · rw [muNew_other hb] at e1; rw [muNew_other hb'] at e2
      exact r.sep b b' L1 L2 e1 e2 hne l1 l2
  · intro b L1 m ver left cur e hg
    have hb : b ≠ id := fun e1 => by subst e1; exact hit _ _ _ _ hg
    rw [muNew_other hb] at e
    intro Lm since seen stepped hm hi ver' es hgm
    have hbo := r.obj b L1 e
    rw [hg] at hbo
    obtain ⟨_, Lm', hm', _⟩ := hbo
    have hmi : m ≠ id := fun e1 => by subst e1; rw [hμ] at hm'; cases hm'
    rw [muNew_other hmi] at hm
    rw [hold _ (r.lt b L1 e)] at hi
    obtain ⟨h1, h2⟩ := r.its b L1 m ver left cur e hg Lm since seen stepped hm hi ver' es hgm
    refine ⟨h1, fun hv => ?_⟩
    obtain ⟨ents, clk, h3, h4⟩ := h2 hv
    exact ⟨ents, clk, (hold _ (r.lt m Lm hm)).trans h3, h4⟩

/-! ### what comes ahead -/
/-- a set of operations that holds, with each, those that come right ahead of it -/
def Closed (ops : List Oper) (D : Nat → Prop) : Prop := ∀ i o, ops[i]? = some o → D i → ∀ e ∈ o.after.toList, Region.binds .any e = true → D e.on
theorem befMask_mem {done : List Nat} : ∀ {es : List Edge} {j : Nat}, (befMask done es).testBit j = true → ∃ e ∈ es, Region.binds .any e = true ∧ (j = e.on ∨ (done.getD e.on 0).testBit j = true)
  | [], j, h => by simp [befMask] at h
  | e :: es, j, h => by
    unfold befMask at h
    cases hb : Region.binds .any e with
    | false =>
      rw [hb] at h
      obtain ⟨e', h1, h2⟩ := befMask_mem h
      exact ⟨e', List.mem_cons_of_mem _ h1, h2⟩
    | true =>
      rw [hb] at h
      simp only [cond_true, Nat.testBit_or, Bool.or_eq_true] at h
      rcases h with (h | h) | h
      · rw [Nat.testBit_two_pow] at h
        exact ⟨e, by simp, hb, .inl (by simpa using h : e.on = j).symm⟩
      · exact ⟨e, by simp, hb, .inr h⟩
      · obtain ⟨e', h1, h2⟩ := befMask_mem h
        exact ⟨e', List.mem_cons_of_mem _ h1, h2⟩
theorem dirMask_mem : ∀ {es : List Edge} {e : Edge}, e ∈ es → Region.binds .any e = true → (dirMask es).testBit e.on = true
  | x :: es, e, h, hb => by
    unfold dirMask
    rcases List.mem_cons.1 h with rfl | h
    · rw [hb]; simp only [cond_true, Nat.testBit_or, Nat.testBit_two_pow, decide_true, Bool.true_or]
    · have := dirMask_mem h hb
      cases Region.binds .any x
      · exact this
      · simp only [cond_true, Nat.testBit_or, this, Bool.or_true]
theorem befs_ok {all : List Oper} {D : Nat → Prop} (hD : Closed all D) : ∀ (l : List Oper) (acc : List Nat), all.drop acc.length = l → (∀ i, D i → ∀ j, (acc.getD i 0).testBit j = true → D j) →
    ∀ i, D i → ∀ j, ((befs l acc).getD i 0).testBit j = true → D j
  | [], acc, _, hacc => hacc
  | o :: l, acc, hdrop, hacc => by
    unfold befs
    refine befs_ok hD l _ ?_ ?_
    · rw [List.length_append, List.length_singleton, ← List.drop_drop, hdrop]; rfl
    · intro i hi j hj
      by_cases h1 : i < acc.length
      · rw [List.getD_eq_getElem?_getD, List.getElem?_append_left h1, ← List.getD_eq_getElem?_getD] at hj
        exact hacc i hi j hj
      · by_cases h2 : i = acc.length
        · subst h2
          rw [List.getD_eq_getElem?_getD, List.getElem?_append_right (Nat.le_refl _)] at hj
          simp only [Nat.sub_self, List.getElem?_cons_zero, Option.getD_some] at hj
          obtain ⟨e, h3, h4, h5⟩ := befMask_mem hj
          have ho : all[acc.length]? = some o := by
            have : (all.drop acc.length)[0]? = some o := by rw [hdrop]; rfl
            simpa using this
          have he := hD _ o ho hi e h3 h4
          rcases h5 with rfl | h5
          · exact he
          · exact hacc _ he j h5
        · rw [List.getD_eq_getElem?_getD, List.getElem?_eq_none (by simp; omega)] at hj
          simp at hj
end Ae

namespace Ae
open Go

/-- a new block, wherever the abstract side puts it -/
def AlSpec (P : Tb) (μ : Mu) (w : World) (s : Sem Value) (mk : Nat → V) (o : O) : Prop :=
  ∃ v' w' L, s.run P.P w = .ok v' w' ∧ L.blk = w.heap.size ∧ L.base = 0 ∧ w'.heap.size = w.heap.size + 1 ∧ (∀ c, c < w.heap.size → w'.heap[c]? = w.heap[c]?) ∧ w'.tape = w.tape ∧ w'.os = w.os ∧ w'.output = w.output ∧
    OR μ w'.heap L o ∧ ∀ id, VR (muNew μ id L) (mk id) v'
def RefMk (mk : Nat → V) : Prop := ∀ x b c, sameRef (mk b) x b c = true → x = mk c
def SAl (P : Tb) (μ : Mu) (h : H) (w : World) (s : Sem Value) (r : R) : Prop :=
  ∀ v h1, r = .st v h1 → h1.next = Nat.succ h.next → ∃ mk o, v = mk h.next ∧ h1 = h.new o ∧ (∀ m v l c, o ≠ .iter m v l c) ∧ RefMk mk ∧ AlSpec P μ w s mk o

theorem RefMk.ptr : RefMk ptr0 := fun x b c h => by
  cases x <;> simp only [ptr0, sameRef] at h <;> try (cases h; done)
  simp only [Bool.and_eq_true] at h
  rw [Nat.eq_of_beq_eq_true h.1.1.2, Nat.eq_of_beq_eq_true h.2]; rfl
theorem RefMk.mp : RefMk .mp := fun x b c h => by
  cases x <;> simp only [sameRef] at h <;> try (cases h; done)
  simp only [Bool.and_eq_true] at h
  rw [Nat.eq_of_beq_eq_true h.2]
theorem RefMk.sl (o l k : Nat) (e : Bool) : RefMk fun b => .sl b o l k e := fun x b c h => by
  cases x <;> simp only [sameRef] at h <;> try (cases h; done)
  simp only [Bool.and_eq_true] at h
  obtain ⟨⟨⟨⟨⟨h1, h2⟩, h3⟩, h4⟩, h5⟩, h6⟩ := h
  rw [Nat.eq_of_beq_eq_true h2, ← Nat.eq_of_beq_eq_true h3, ← Nat.eq_of_beq_eq_true h4, ← Nat.eq_of_beq_eq_true h5, ← beq_iff_eq.1 h6]

section
variable {P : Tb} {μ : Mu} {h : H} {w : World} {s : Sem Value}
theorem SAl.fail : SAl P μ h w s .fail := fun _ _ e => by cases e
theorem SAl.val (v : V) : SAl P μ h w s (.val v) := fun _ _ e => by cases e
theorem SAl.of (o : Option V) : SAl P μ h w s (R.of o) := by cases o; exact SAl.fail; exact SAl.val _
theorem SAl.opt' {α : Type} {o : Option α} {f : α → R} (hs : ∀ a, o = some a → SAl P μ h w s (f a)) : SAl P μ h w s (opt o .fail f) := by
  cases o with
  | none => exact SAl.fail
  | some a => exact hs a rfl
theorem SAl.sel' {c : Bool} {f : R} (hs : c = true → SAl P μ h w s f) : SAl P μ h w s (sel c f .fail) := by
  cases c with
  | false => exact SAl.fail
  | true => exact hs rfl
theorem SAl.alloc {mk : Nat → V} {o : O} (hit : ∀ m v l c, o ≠ .iter m v l c) (hm : RefMk mk) (sp : AlSpec P μ w s mk o) : SAl P μ h w s (Ae.alloc h mk o) := by
  rw [alloc_eq]
  intro v h1 e _
  cases e
  exact ⟨mk, o, rfl, rfl, hit, hm, sp⟩
theorem alSpec_cells {mk : Nat → V} {n es : Nat} {l : List V} {d : V} {c : Array Value} {e : TypeId} {v' : Value} (hn : n ≤ c.size) (hc : ∀ i, i < n → ∃ v, c[i]? = some v ∧ VR μ (lget d l i) v)
    (hrun : s.run P.P w = .ok v' (w.alloc (.cells c e))) (hv : ∀ id, VR (muNew μ id ⟨w.heap.size, 0, c.size, es⟩) (mk id) v') : AlSpec P μ w s mk (.cells n es l d) :=
  ⟨v', _, ⟨w.heap.size, 0, c.size, es⟩, hrun, rfl, rfl, by simp, fun c hc => push_old hc, rfl, rfl, rfl,
    ⟨c, e, (0, 0), push_new, rfl, rfl, by simpa using hn, fun i hi => by obtain ⟨v, h1, h2⟩ := hc i hi; exact ⟨v, by simpa using h1, h2⟩, .inl (.inl rfl)⟩, hv⟩
theorem newCells_al {cs : List V} {c : Array Value} (hv : VRs μ cs c.toList) (e : TypeId) (hrun : s.run P.P w = .ok (.pointer (some ⟨w.heap.size, 0, none⟩)) (w.alloc (.cells c e))) : SAl P μ h w s (newCells cs h) := by
  unfold newCells
  rw [frc_eq, llen_eq]
  refine SAl.alloc (by simp) RefMk.ptr (alSpec_cells (c := c) (e := e) (by simpa using Nat.le_of_eq hv.length) (fun i hi => ?_) hrun fun id => ?_)
  · obtain ⟨v, h1, h2⟩ := hv.get i .any hi
    exact ⟨v, by simpa using h1, h2⟩
  · simp only [ptr0, VR]; exact ⟨_, muNew_same _ _ _, by simp⟩

variable (ok : P.Ok)
include ok
theorem opAlloc_al (t : TypeId) (a : A) : SAl P μ h w (Instr.alloc t true (.tuple #[])) (opAlloc t P a h) := by
  refine SAl.opt' fun z hz => ?_
  unfold zcells0 at hz
  cases h1 : zeroT P t with
  | none => simp [h1] at hz
  | some z0 =>
    cases h2 : sizeT P t with
    | none => simp [h1, h2] at hz
    | some s =>
      simp only [h1, h2] at hz
      cases h3 : Nat.beq z0.cells.length s with
      | false => simp [h3] at hz
      | true =>
        simp only [h3, cond_true, Option.some.injEq] at hz
        subst hz
        obtain ⟨v, hv, rfl⟩ := zero_of ok w h1
        exact newCells_al (zcells_vr μ v) t (by unfold Instr.alloc newVar; simp only [Sem.run_bind, hv, newRow_run, Result.andThen_ok, Sem.run_pure])
omit ok in
theorem opBox_al {a : A} {A' : Act} (ha : AR μ a A') (t : TypeId) (x : Operand) : SAl P μ h w (Instr.box t (A'.eval x)) (opBox t x P a h) := by
  refine SAl.sel' fun hk => ?_
  exact newCells_al (cells_vr (ev_vr ha x) hk) t (by unfold Instr.box newVar; simp only [Sem.run_bind, newRow_run, Result.andThen_ok, Sem.run_pure])
theorem opMkMap_al {a : A} {A' : Act} (ha : AR μ a A') (t : TypeId) (x : Option Operand) : SAl P μ h w (Instr.makeMap t (x.map A'.eval)) (opMkMap t x P a h) := by
  have key : (Instr.makeMap t (x.map A'.eval)).run P.P w = .ok (.map (some w.heap.size)) (w.alloc (.map #[] 0)) → SAl P μ h w (Instr.makeMap t (x.map A'.eval)) (Ae.alloc h .mp (.map 0 [])) := fun hrun =>
    SAl.alloc (by simp) RefMk.mp ⟨_, _, ⟨w.heap.size, 0, 0, 0⟩, hrun, rfl, rfl, by simp, fun c hc => push_old hc, rfl, rfl, rfl, ⟨#[], 0, push_new, ⟨⟨[], .refl _, rfl⟩, by simp, by simp, trivial⟩⟩, fun id => by simp only [VR]; exact ⟨_, muNew_same _ _ _, rfl⟩⟩
  unfold opMkMap
  cases x with
  | none => exact key (by simp [Instr.makeMap])
  | some x =>
    simp only
    cases hm : isMapT P t with
    | false => exact SAl.fail
    | true =>
      simp only [cond_true]
      cases hn : (a.ev x).num? with
      | none => exact SAl.fail
      | some n =>
        obtain ⟨k, hk⟩ := V.num?_some hn
        have hxv := ev_vr ha x
        rw [hk] at hxv
        obtain ⟨kt, e, hu⟩ := isMapT_und hm
        exact key (by simp [Instr.makeMap, run_und ok w hu, hxv.int, asInt, asIntOf])
theorem opBuildSlice_al {a : A} {A' : Act} (ha : AR μ a A') (t : TypeId) (len : Nat) (ps : Array (Nat × Operand)) :
    SAl P μ h w (Instr.buildSlice t len (ps.map fun (i, x) => (i, A'.eval x))) (opBuildSlice t len ps P a h) := by
  unfold opBuildSlice
  cases h1 : elemT P t with
  | none => simp only [h1]; exact SAl.fail
  | some e =>
    cases h2 : zcellsT P e with
    | none => simp only [h1, h2]; exact SAl.fail
    | some z =>
      cases h3 : evPairs a ps.toList with
      | none => simp only [h1, h2, h3]; exact SAl.fail
      | some l =>
        simp only [h1, h2, h3]
        cases hb : Nat.ble (len * z.length) 16777216 with
        | false => exact SAl.fail
        | true =>
          simp only [cond_true]
          cases hf : fillA (fun i => some (i * z.length, z.length)) (repl z len) l with
          | none => simp only [hf]; exact SAl.fail
          | some cs =>
            simp only [hf]
            rw [frc_eq, llen_eq]
            have hp := evPairs_ok ha h3
            rw [← evPairs_toList] at hp
            obtain ⟨zv, s, h4, h5, rfl, h6, h7⟩ := zcellsT_spec h2
            obtain ⟨zr, h8, rfl⟩ := zero_of ok w h4
            have hzs := zcells_vr μ zr
            have hzl : (ofVal zr).cells.length = zr.cells.size := by simpa using hzs.length
            obtain ⟨cs', h9, h10⟩ := fillA_ok hf (repl_vr hzs (by omega) len) hp
            have hle := Nat.le_of_ble_eq_true hb
            have hlen : cs.length = cs'.size := by simpa using h10.length
            -- the row is as long as the zero row
            have hfl : ∀ (place : Nat → Option (Nat × Nat)) (parts : List (Nat × V)) (c0 c1 : List V), fillA place c0 parts = some c1 → c1.length = c0.length := by
              intro place parts
              induction parts with
              | nil => intro c0 c1 hh; cases hh; rfl
              | cons p parts ih =>
                intro c0 c1 hh
                unfold fillA at hh
                cases hpl : place p.1 with
                | none => simp [hpl] at hh
                | some q =>
                  simp only [hpl] at hh
                  cases hbb : (!(Nat.beq p.2.cells.length q.2) || Nat.blt c0.length (q.1 + q.2)) with
                  | true => rw [hbb] at hh; cases hh
                  | false =>
                    rw [hbb] at hh
                    simp only [cond_false] at hh
                    simp only [Bool.or_eq_false_iff, Bool.not_eq_false'] at hbb
                    have hb1 := Nat.eq_of_beq_eq_true hbb.1
                    have hb2 : q.1 + q.2 ≤ c0.length := by
                      rcases Nat.lt_or_ge c0.length (q.1 + q.2) with hlt | hge
                      · have : Nat.blt c0.length (q.1 + q.2) = true := Nat.ble_eq_true_of_le hlt
                        rw [this] at hbb; cases hbb.2
                      · exact hge
                    rw [ih _ _ hh, lput_length]; omega
            have hcl : cs.length = len * (ofVal zr).cells.length := by rw [hfl _ _ _ _ hf, repl_length]
            refine SAl.alloc (by simp) (RefMk.sl 0 len len true) (alSpec_cells (v' := .slice (some ⟨w.heap.size, 0, none⟩) len len) (c := cs') (e := e) (by omega) (fun i hi => ?_) ?_ fun id => ?_)
            · obtain ⟨v, h11, h12⟩ := h10.get i .any hi
              exact ⟨v, by simpa using h11, h12⟩
            · unfold Instr.buildSlice
              have hsz : s = (ofVal zr).cells.length := h6.symm
              have hss : (zr.cells.size = s) := by omega
              rw [h6] at h9 hle
              by_cases hls : len * s = 0
              · have hl0 : len = 0 := by rcases Nat.mul_eq_zero.1 hls with h | h <;> omega
                subst hl0
                have h9' : Instr.fill (fun i => some (i * s, s)) #[] (ps.map fun (i, x) => (i, A'.eval x)).toList = some cs' := by
                  have e0 : (Array.range (0 * zr.cells.size)).map (zr.cells[· % zr.cells.size]!) = #[] := by simp [Array.range]
                  rw [e0] at h9; exact h9
                have e1 : ∀ f : Nat → Value, (Array.range (0 * s)).map f = #[] := fun f => by simp [Array.range]
                simp only [Sem.run_bind, run_und ok w (elemT_und h1), run_size ok w h5, Result.andThen_ok, e1]
                rw [if_neg (by simp), if_pos (by simp)]
                simp only [Sem.run_bind, Sem.run_pure, Result.andThen_ok, e1, h9', newRow_run]
              · have : ¬ len * s > 16777216 := by omega
                rw [hss] at h9
                have h9' : Instr.fill (fun i => some (i * s, s)) (Array.map (fun x => zr.cells[x % zr.cells.size]!) (Array.range (len * s))) (ps.toList.map fun x => (x.1, A'.eval x.2)) = some cs' := by simpa [hss] using h9
                simp [run_und ok w (elemT_und h1), run_size ok w h5, this, hls, h8, h9', newRow_run]
            · simp only [VR]
              exact ⟨_, _, len, muNew_same _ _ _, rfl, Nat.le_refl _, fun _ => rfl, Nat.le_refl _, rfl, rfl, .inr rfl, fun e => by cases e⟩
theorem opMkSlice_al {a : A} {A' : Act} (ha : AR μ a A') (t : TypeId) (x y : Operand) : SAl P μ h w (Instr.makeSlice t (A'.eval x) (A'.eval y)) (opMkSlice t x y P a h) := by
  unfold opMkSlice
  cases h1 : (a.ev x).num? with
  | none => simp only [h1]; exact SAl.fail
  | some l =>
    cases h2 : (a.ev y).num? with
    | none => simp only [h1, h2]; exact SAl.fail
    | some c =>
      cases h3 : elemT P t with
      | none => simp only [h1, h2, h3]; exact SAl.fail
      | some e =>
        cases h4 : zcellsT P e with
        | none => simp only [h1, h2, h3, h4]; exact SAl.fail
        | some z =>
          cases h5 : P.info? e with
          | none => simp only [h1, h2, h3, h4, h5]; exact SAl.fail
          | some i =>
            simp only [h1, h2, h3, h4, h5]
            cases hb : (decide (0 ≤ l) && decide (l ≤ c) && decide (c ≤ 1048576) && Nat.ble i.bytes 65536) with
            | false => exact SAl.fail
            | true =>
              simp only [cond_true]
              simp only [Bool.and_eq_true, decide_eq_true_eq] at hb
              obtain ⟨⟨⟨hl0, hlc⟩, hcb⟩, hby⟩ := hb
              have hby := Nat.le_of_ble_eq_true hby
              obtain ⟨kx, hx⟩ := V.num?_some h1
              obtain ⟨ky, hy⟩ := V.num?_some h2
              have hxv := ev_vr ha x
              have hyv := ev_vr ha y
              rw [hx] at hxv; rw [hy] at hyv
              obtain ⟨zv, s, h6, h7, hzz, h8, h9⟩ := zcellsT_spec h4
              obtain ⟨zr, h10, hzr⟩ := zero_of ok w h6
              have hzs := zcells_vr μ zr
              have hzl : z.length = zr.cells.size := by rw [hzz, hzr]; simpa using hzs.length
              have hsz : s = zr.cells.size := by omega
              have hwl : IntKind.i64.wrap l = l := wrap_i64' l (by omega) (by omega)
              have hwc : IntKind.i64.wrap c = c := wrap_i64' c (by omega) (by omega)
              have hprod : (i.bytes : Int) * c ≤ 65536 * 1048576 := Int.mul_le_mul (by omega) hcb (by omega) (by omega)
              have hprodl : (i.bytes : Int) * l ≤ 65536 * 1048576 := Int.mul_le_mul (by omega) (by omega) (by omega) (by omega)
              -- what runs
              have hrun : (Instr.makeSlice t (A'.eval x) (A'.eval y)).run P.P w = .ok (.slice (some ⟨w.heap.size, 0, none⟩) l.toNat c.toNat)
                  (w.alloc (.cells ((Array.range (c.toNat * zr.cells.size)).map (zr.cells[· % zr.cells.size]!)) e)) := by
                rw [hxv.int, hyv.int]
                unfold Instr.makeSlice
                simp only [Sem.run_bind, run_und ok w (elemT_und h3), Result.andThen_ok, asInt, asIntOf, Sem.run_pure, run_info ok w h5, hwl, hwc]
                rw [if_neg (by
                  have e1 : ¬ c < 0 := by omega
                  have e2 : (i.bytes : Int) * c ≤ 281474976710656 := by omega
                  have e3 : ¬ l < 0 := by omega
                  have e4 : ¬ l > c := by omega
                  simp [e1, e2, e3, e4])]
                simp only [Sem.run_pure, Result.andThen_ok, Sem.run_bind, run_askRoom, run_size ok w h7]
                by_cases hn : c.toNat * s = 0
                · have hc0 : c.toNat = 0 := by rcases Nat.mul_eq_zero.1 hn with h | h <;> omega
                  have e1 : ∀ (q : Nat) (f : Nat → Value), (Array.range (0 * q)).map f = #[] := fun q f => by simp [Array.range]
                  rw [if_pos hn]
                  simp only [hc0, Sem.run_bind, Sem.run_pure, Result.andThen_ok, e1, newRow_run]
                · rw [if_neg hn]
                  simp only [Sem.run_bind, h10, Sem.run_pure, Result.andThen_ok, newRow_run, hsz]
              have hrow : ∀ j, j < c.toNat * zr.cells.size → ∃ v, ((Array.range (c.toNat * zr.cells.size)).map (zr.cells[· % zr.cells.size]!))[j]? = some v ∧ VR μ (lget .any z (j % zr.cells.size)) v := by
                intro j hj
                obtain ⟨v, h11, h12⟩ := zeroRow_get zr.cells (c.toNat * zr.cells.size) j hj (by omega)
                have hm : j % zr.cells.size < z.length := by rw [hzl]; exact Nat.mod_lt _ (by omega)
                have hzs' : VRs μ z zr.cells.toList := by rw [hzz, hzr]; exact hzs
                obtain ⟨u, h13, h14⟩ := hzs'.get (j % zr.cells.size) .any hm
                rw [Array.getElem?_toList, h12] at h13; cases h13
                exact ⟨v, h11, h14⟩
              have hcsz : ((Array.range (c.toNat * zr.cells.size)).map (zr.cells[· % zr.cells.size]!)).size = c.toNat * zr.cells.size := by simp
              have hsl : ∀ (L : Loc), L.blk = w.heap.size → L.base = 0 → SlR L 0 l.toNat c.toNat true ⟨w.heap.size, 0, none⟩ c.toNat := fun L e1 e2 =>
                ⟨Nat.le_refl _, fun _ => rfl, by omega, e1.symm, rfl, .inr (by rw [e1, e2]), fun e => by cases e⟩
              have fin : ∀ (n es : Nat) (cl : List V) (d : V), n ≤ c.toNat * zr.cells.size → (∀ j, j < n → lget d cl j = lget .any z (j % zr.cells.size)) →
                  SAl P μ h w (Instr.makeSlice t (A'.eval x) (A'.eval y)) (alloc h (fun b => .sl b 0 l.toNat c.toNat true) (.cells n es cl d)) := by
                intro n es cl d hn hcl
                refine SAl.alloc (by simp) (RefMk.sl 0 l.toNat c.toNat true) (alSpec_cells (by rw [hcsz]; exact hn) (fun j hj => ?_) hrun fun id => ?_)
                · obtain ⟨v, h11, h12⟩ := hrow j (by omega)
                  exact ⟨v, h11, by rw [hcl j hj]; exact h12⟩
                · simp only [VR]
                  exact ⟨_, _, _, muNew_same _ _ _, rfl, hsl _ rfl rfl⟩
              split
              · rename_i z0
                rw [frc_eq, frc_eq]
                have h1z : zr.cells.size = 1 := by simpa using hzl.symm
                refine fin _ _ _ _ (by rw [h1z]; omega) fun j hj => ?_
                rw [h1z, Nat.mod_one]; rfl
              · rw [frc_eq, frc_eq, hzl]
                refine fin _ _ _ _ (Nat.le_refl _) fun j hj => ?_
                rw [lget_repl _ _ (by omega) _ _ (by rw [hzl]; exact hj), hzl]
theorem aconv_al (s d : TypeId) {x : V} {v : Value} (hx : VR μ x v) : SAl P μ h w (convert s d v) (aconv (ck P s d) x h) := by
  have hck := ck_spec P s d
  cases hc : ck P s d <;> rw [hc] at hck
  case bad => exact SAl.fail
  case int k =>
    show SAl P μ h w _ (x.intK _ _)
    rw [intK_eq]
    cases x <;> first | exact SAl.opt' (fun _ _ => SAl.val _) | (show SAl P μ h w _ (Ae.wr _ _); unfold Ae.wr; rw [frcI_eq]; exact SAl.val _)
  case str => exact SAl.opt' fun p hp => SAl.val _
  case strBytes =>
    obtain ⟨h1, e, h2, h3⟩ := hck
    refine SAl.opt' fun p hp => ?_
    have := V.str?_some hp
    subst this
    obtain ⟨a, rfl, ha⟩ := hx.str
    rw [frc_eq, llen_eq, bytes_len a ha]
    have hrun : (convert s d (.string a)).run P.P w = (Conv.stringToBytes e a).run P.P w := by simp [convert, run_und ok w h1, run_und ok w h2, run_und ok w h3]
    obtain ⟨cap, hcap⟩ : ∃ cap, Question.cut (.appendCap a.size 0 e) (w.tape w.drawn (.appendCap a.size 0 e)) = cap := ⟨_, rfl⟩
    have hle : a.size ≤ cap := by rw [← hcap]; exact cut_append _ _ _ _
    have hasz : a.data.size = a.size := rfl
    let c : Array Value := a.data.map (fun b => Value.int .u8 b.toNat) ++ Array.replicate (cap - a.size) (.int .u8 0)
    have hcs : c.size = cap := by simp only [c, Array.size_append, Array.size_map, Array.size_replicate]; omega
    have hcell : ∀ i, i < a.size → ∃ v, c[i]? = some v ∧ VR μ (lget (.int .u8 0) (u8s p) i) v := fun i hi => by
      refine ⟨.int .u8 (a.data[i]'(by omega)).toNat, ?_, ?_⟩
      · simp only [c]
        rw [Array.getElem?_append_left (by simp; omega), Array.getElem?_map, Array.getElem?_eq_getElem (show i < a.data.size by omega)]; rfl
      · have hl : i < (u8s p).length := by rw [u8s_eq, List.length_map, bytes_len a ha]; exact hi
        rw [lget_lt _ _ _ hl]
        have : (u8s p)[i] = V.int .u8 (Int.ofNat (a.data[i]'(by omega)).toNat) := by
          simp only [u8s_eq, ← ha, List.getElem_map, Array.getElem_toList]
        rw [this]; simp [VR]
    let w2 : World := (w.drew.alloc (.cells c e))
    let w3 : World := w2.freeze ⟨w.heap.size, c.size, none⟩ 1
    have hg2 : w2.heap[w.heap.size]? = some (.cells c e (0, 0)) := push_new
    have hg3 : w3.heap[w.heap.size]? = some (.cells c e (c.size, c.size + 1)) := by
      simp only [w3, World.freeze]
      simp [Array.getElem?_modify, hg2]
    refine SAl.alloc (by simp) (RefMk.sl 0 a.size a.size false) ⟨.slice (some ⟨w.heap.size, 0, none⟩) a.size cap, w3, ⟨w.heap.size, 0, c.size, 1⟩, ?_, rfl, rfl, ?_, ?_, rfl, rfl, rfl, ?_, fun id => ?_⟩
    · rw [hrun]; unfold Conv.stringToBytes
      simp only [Sem.run_bind, run_appendCap, Result.andThen_ok, hcap]
      rw [newRow_run]
      simp only [Result.andThen_ok, World.size_drew]
      have hms : (markStringish ⟨w.heap.size, 0, none⟩).run P.P w2 = .ok () w3 := by
        unfold markStringish
        simp only [Sem.run_bind, run_shape, Result.andThen_ok]
        have : w2.shape? w.heap.size = some (e, c.size) := by unfold World.shape?; rw [hg2]
        rw [this]; rfl
      show ((markStringish ⟨w.heap.size, 0, none⟩).run P.P w2).andThen _ = _
      rw [hms]; rfl
    · simp [w3, w2, World.freeze]
    · intro x hx
      simp only [w3, World.freeze]
      have : w2.heap[x]? = w.heap[x]? := push_old hx
      simp [Array.getElem?_modify, show ¬ w.heap.size = x by omega, this]
    · exact ⟨c, e, (c.size, c.size + 1), hg3, rfl, rfl, by show 0 + a.size ≤ c.size; omega, fun i hi => by obtain ⟨v, h1, h2⟩ := hcell i hi; exact ⟨v, by simpa using h1, h2⟩, .inl (.inr ⟨Nat.le_refl _, rfl⟩)⟩
    · simp only [VR]
      refine ⟨_, ⟨w.heap.size, 0, none⟩, cap, muNew_same _ _ _, rfl, hle, by simp, hle, rfl, rfl, .inr rfl, fun _ => ?_⟩
      simp; omega
  case bytesStr =>
    show SAl P μ h w _ (convBytesStr x h)
    unfold convBytesStr
    split
    · exact SAl.fail
    · exact SAl.val _
    · split
      · split
        · exact SAl.val _
        · exact SAl.opt' fun _ _ => SAl.val _
      · exact SAl.fail
  case bytes =>
    show SAl P μ h w _ (convBytes x h)
    unfold convBytes
    split
    · split
      · refine SAl.sel' fun _ => ?_
        intro v1 h1 e hn
        cases e; rw [H.next_put] at hn; omega
      · exact SAl.fail
    · exact SAl.fail
end
end Ae

namespace Ae
open Go

section
variable {P : Tb} {μ : Mu} {h : H} {w : World} (ok : P.Ok)
include ok in
theorem al_exec {a : A} {A' : Act} (ha : AR μ a A') (o : Oper) (hal : isAl o.op = true) : ∃ s : Sem Value, execOp A'.eval o = (do pure (.value (← s))) ∧ SAl P μ h w s (aop o.op P a h) := by
  unfold execOp
  cases ho : o.op <;> rw [ho] at hal <;> try (cases hal; done)
  case alloc t => exact ⟨_, rfl, opAlloc_al ok t a⟩
  case box t x => exact ⟨_, rfl, opBox_al ha t x⟩
  case buildSlice t n ps => exact ⟨_, rfl, opBuildSlice_al ok ha t n ps⟩
  case convert s d x => exact ⟨_, rfl, aconv_al ok s d (ev_vr ha x)⟩
  case makeMap t x => exact ⟨_, rfl, opMkMap_al ok ha t x⟩
  case makeSlice t x y => exact ⟨_, rfl, opMkSlice_al ok ha t x y⟩
end

/-! ### the plan -/
structure PlOk (ops : Array Oper) (bef : List Nat) (p : Pl) : Prop where
  o : ops[p.i]? = some p.o
  al : p.al = isAl p.o.op
  bef : p.bef = bef.getD p.i 0
  rds : p.rds = p.o.looksAt ops
theorem plan_ok (ops : Array Oper) (bef : List Nat) : ∀ n done, ∀ p ∈ plan ops bef n done, PlOk ops bef p
  | 0, done, p, hp => by simp [plan] at hp
  | n + 1, done, p, hp => by
    unfold plan at hp
    split at hp
    · rename_i q hq
      split at hp
      · rename_i o ho
        rcases List.mem_cons.1 hp with rfl | hp
        · exact ⟨ho, rfl, rfl, rfl⟩
        · exact plan_ok ops bef n _ p hp
      · simp at hp
    · simp at hp
theorem dstT_ok : ∀ (l : List Oper) (i : Nat) (t t' : T Nat), dstT l i t = some t' → (∀ d x, T.get t d = some x → T.get t' d = some x) ∧ ∀ k o d, l[k]? = some o → o.dst = some d → T.get t' d = some (i + k)
  | [], i, t, t', h => by cases h; exact ⟨fun _ _ h => h, fun k o d hk => by simp at hk⟩
  | o :: l, i, t, t', h => by
    unfold dstT at h
    cases hd : o.dst with
    | none =>
      rw [hd] at h
      obtain ⟨h1, h2⟩ := dstT_ok l (i + 1) t t' h
      refine ⟨h1, fun k o' d hk hd' => ?_⟩
      cases k with
      | zero => simp at hk; subst hk; rw [hd] at hd'; cases hd'
      | succ k => have := h2 k o' d (by simpa using hk) hd'; rw [this]; congr 1; omega
    | some d0 =>
      rw [hd] at h
      simp only at h
      cases hg : T.get t d0 with
      | some x => rw [hg] at h; cases h
      | none =>
        rw [hg] at h
        obtain ⟨h1, h2⟩ := dstT_ok l (i + 1) (T.set t d0 i) t' h
        refine ⟨fun d x hx => h1 d x ?_, fun k o' d hk hd' => ?_⟩
        · rw [T.get_set]
          have : d ≠ d0 := fun e => by subst e; rw [hg] at hx; cases hx
          rw [if_neg this]; exact hx
        · cases k with
          | zero =>
            simp at hk; subst hk; rw [hd] at hd'; cases hd'
            exact h1 _ _ (by rw [T.get_set, if_pos rfl]; simp)
          | succ k => have := h2 k o' d (by simpa using hk) hd'; rw [this]; congr 1; omega
theorem dstT_back : ∀ (l : List Oper) (i : Nat) (t t' : T Nat), dstT l i t = some t' → ∀ d x, T.get t' d = some x → T.get t d = some x ∨ ∃ k o, l[k]? = some o ∧ o.dst = some d ∧ x = i + k
  | [], i, t, t', h, d, x, hx => by cases h; exact .inl hx
  | o :: l, i, t, t', h, d, x, hx => by
    unfold dstT at h
    cases hd : o.dst with
    | none =>
      rw [hd] at h
      rcases dstT_back l (i + 1) t t' h d x hx with h1 | ⟨k, o', h1, h2, h3⟩
      · exact .inl h1
      · exact .inr ⟨k + 1, o', by simpa using h1, h2, by omega⟩
    | some d0 =>
      rw [hd] at h
      simp only at h
      cases hg : T.get t d0 with
      | some y => rw [hg] at h; cases h
      | none =>
        rw [hg] at h
        rcases dstT_back l (i + 1) (T.set t d0 i) t' h d x hx with h1 | ⟨k, o', h1, h2, h3⟩
        · rw [T.get_set] at h1
          by_cases hdd : d = d0
          · rw [if_pos hdd] at h1; cases h1
            exact .inr ⟨0, o, rfl, by rw [hdd]; exact hd, rfl⟩
          · rw [if_neg hdd] at h1; exact .inl h1
        · exact .inr ⟨k + 1, o', by simpa using h1, h2, by omega⟩
theorem readsOk_mem {bef : List Nat} {dt : T Nat} {p : Pl} : ∀ {l : List Nat}, readsOk bef dt p l = true → ∀ t ∈ l, ∀ i, T.get dt t = some i → i = p.i ∨ p.bef.testBit i = true ∨ (bef.getD i 0).testBit p.i = true
  | [], _, t, ht, _, _ => by simp at ht
  | x :: l, h, t, ht, i, hi => by
    unfold readsOk at h
    simp only [Bool.and_eq_true] at h
    rcases List.mem_cons.1 ht with rfl | ht
    · have h1 := h.1
      rw [hi] at h1
      simp only [Bool.or_eq_true] at h1
      rcases h1 with (h1 | h1) | h1
      · exact .inl (Nat.eq_of_beq_eq_true h1)
      · exact .inr (.inl h1)
      · exact .inr (.inr h1)
    · exact readsOk_mem h.2 t ht i hi

/-- what the plan is known to be -/
structure Static (ops : Array Oper) (bef : List Nat) (dt : T Nat) (l : List Pl) : Prop where
  befE : bef = befs ops.toList []
  dst : ∀ (i t : Nat) (o : Oper), ops[i]? = some o → o.dst = some t → T.get dt t = some i
  dst' : ∀ (i t : Nat), T.get dt t = some i → ∃ o, ops[i]? = some o ∧ o.dst = some t
  plOk : ∀ p ∈ l, PlOk ops bef p
  len : l.length = ops.size
  chk : chkPlan bef dt l 0 0 = true
theorem drawPlan_ok {ops : Array Oper} {l : List Pl} (h : drawPlan ops = some l) : ∃ bef dt, Static ops bef dt l := by
  unfold drawPlan at h
  cases hd : dstT ops.toList 0 .nil with
  | none => rw [hd] at h; cases h
  | some dt =>
    rw [hd] at h
    simp only at h
    cases hb : (Nat.beq (plan ops (befs ops.toList []) ops.size 0).length ops.size && chkPlan (befs ops.toList []) dt (plan ops (befs ops.toList []) ops.size 0) 0 0) with
    | false => rw [hb] at h; cases h
    | true =>
      rw [hb] at h
      simp only [cond_true, Option.some.injEq] at h
      subst h
      simp only [Bool.and_eq_true] at hb
      refine ⟨befs ops.toList [], dt, rfl, fun i t o ho ht => ?_, fun i t ht => ?_, plan_ok ops _ _ _, Nat.eq_of_beq_eq_true hb.1, hb.2⟩
      · have := (dstT_ok ops.toList 0 .nil dt hd).2 i o t (by rw [Array.getElem?_toList]; exact ho) ht
        simpa using this
      · rcases dstT_back ops.toList 0 .nil dt hd t i ht with h1 | ⟨k, o, h1, h2, h3⟩
        · rw [T.get_nil] at h1; cases h1
        · exact ⟨o, by rw [Array.getElem?_toList] at h1; rw [h3, Nat.zero_add]; exact h1, h2⟩

/-- a closed set holds what comes ahead of its operations -/
theorem Static.pred {ops : Array Oper} {bef : List Nat} {dt : T Nat} {l : List Pl} (st : Static ops bef dt l) {D : Nat → Prop} (hD : Closed ops.toList D) {i j : Nat} (hi : D i) (hj : (bef.getD i 0).testBit j = true) : D j := by
  rw [st.befE] at hj
  exact befs_ok hD ops.toList [] (by simp) (fun i hi j hj => by simp at hj) i hi j hj

theorem and_eq_left {a b : Nat} (h : a &&& b = a) {j : Nat} (hj : a.testBit j = true) : b.testBit j = true := by
  rw [← h, Nat.testBit_and, Bool.and_eq_true] at hj; exact hj.2
theorem or_two_pow {a i j : Nat} : (a ||| 2 ^ i).testBit j = true ↔ a.testBit j = true ∨ j = i := by
  rw [Nat.testBit_or, Nat.testBit_two_pow, Bool.or_eq_true, decide_eq_true_eq, eq_comm (a := i)]

/-- one entry of a plan that holds -/
structure ChkOk (bef : List Nat) (dt : T Nat) (p : Pl) (l : List Pl) (done wm : Nat) : Prop where
  new : done.testBit p.i = false
  dir : ∀ e ∈ p.o.after.toList, Region.binds .any e = true → done.testBit e.on = true
  wr : ∀ j, wm.testBit j = true → p.bef.testBit j = true
  rds : readsOk bef dt p p.rds = true
  rest : chkPlan bef dt l (done ||| 2 ^ p.i) (bif p.wr then wm ||| 2 ^ p.i else wm) = true
theorem chkPlan_cons {bef : List Nat} {dt : T Nat} {p : Pl} {l : List Pl} {done wm : Nat} (h : chkPlan bef dt (p :: l) done wm = true) : ChkOk bef dt p l done wm := by
  unfold chkPlan at h
  simp only [Bool.and_eq_true, Bool.not_eq_true'] at h
  obtain ⟨⟨⟨⟨h1, h2⟩, h3⟩, h4⟩, h5⟩ := h
  refine ⟨h1, fun e he hb => and_eq_left (Nat.eq_of_beq_eq_true h2) (dirMask_mem he hb), fun j hj => ?_, h4, h5⟩
  have h6 := Nat.eq_of_beq_eq_true h3
  rw [← h6, Nat.testBit_and, Bool.and_eq_true] at hj; exact hj.1
/-- every later entry has every writer so far ahead of it -/
theorem chkPlan_wr {bef : List Nat} {dt : T Nat} : ∀ {l : List Pl} {done wm : Nat}, chkPlan bef dt l done wm = true → ∀ q ∈ l, ∀ j, wm.testBit j = true → q.bef.testBit j = true
  | [], _, _, _, q, hq, _, _ => by simp at hq
  | p :: l, done, wm, h, q, hq, j, hj => by
    have hc := chkPlan_cons h
    rcases List.mem_cons.1 hq with rfl | hq
    · exact hc.wr j hj
    · refine chkPlan_wr hc.rest q hq j ?_
      cases p.wr
      · exact hj
      · exact or_two_pow.2 (.inl hj)
theorem chkPlan_new {bef : List Nat} {dt : T Nat} : ∀ {l : List Pl} {done wm : Nat}, chkPlan bef dt l done wm = true → (∀ q ∈ l, done.testBit q.i = false) ∧ (l.map (·.i)).Nodup
  | [], _, _, _ => ⟨by simp, by simp⟩
  | p :: l, done, wm, h => by
    have hc := chkPlan_cons h
    obtain ⟨h1, h2⟩ := chkPlan_new hc.rest
    have h3 : ∀ q ∈ l, done.testBit q.i = false ∧ q.i ≠ p.i := fun q hq => by
      have := h1 q hq
      refine ⟨?_, fun e => ?_⟩
      · cases hb : done.testBit q.i with
        | false => rfl
        | true => rw [or_two_pow.2 (.inl hb)] at this; cases this
      · rw [or_two_pow.2 (.inr e)] at this; cases this
    refine ⟨fun q hq => ?_, ?_⟩
    · rcases List.mem_cons.1 hq with rfl | hq
      · exact hc.new
      · exact (h3 q hq).1
    · rw [List.map_cons, List.nodup_cons]
      refine ⟨fun hm => ?_, h2⟩
      obtain ⟨q, hq, e⟩ := List.mem_map.1 hm
      exact (h3 q hq).2 e
theorem nodup_le : ∀ (n : Nat) (l : List Nat), l.Nodup → (∀ x ∈ l, x < n) → l.length ≤ n
  | 0, l, _, hx => by
    cases l with
    | nil => simp
    | cons x l => exact absurd (hx x (by simp)) (by omega)
  | n + 1, l, hn, hx => by
    by_cases hm : n ∈ l
    · have h1 := nodup_le n (l.erase n) (hn.erase n) fun x hx' => by
        have := hn.mem_erase_iff.1 hx'
        have := hx x this.2
        omega
      rw [List.length_erase_of_mem hm] at h1; omega
    · have := nodup_le n l hn fun x hx' => by
        have h1 := hx x hx'
        have : x ≠ n := fun e => hm (e ▸ hx')
        omega
      omega
/-- all operations are in the plan -/
theorem Static.cover {ops : Array Oper} {bef : List Nat} {dt : T Nat} {l : List Pl} (st : Static ops bef dt l) {i : Nat} (hi : i < ops.size) : ∃ p ∈ l, p.i = i := by
  have h1 := (chkPlan_new st.chk).2
  have h2 : ∀ x ∈ l.map (·.i), x < ops.size := fun x hx => by
    obtain ⟨p, hp, rfl⟩ := List.mem_map.1 hx
    exact (Array.getElem?_eq_some_iff.1 (st.plOk p hp).o).1
  by_cases hm : i ∈ l.map (·.i)
  · obtain ⟨p, hp, e⟩ := List.mem_map.1 hm
    exact ⟨p, hp, e⟩
  · have := nodup_le ops.size (i :: l.map (·.i)) (List.nodup_cons.2 ⟨hm, h1⟩) fun x hx => by
      rcases List.mem_cons.1 hx with rfl | hx
      · exact hi
      · exact h2 x hx
    rw [List.length_cons, List.length_map, st.len] at this
    exact absurd this (by omega)
end Ae

namespace Ae
open Go

/-! ### the restricted frame -/
theorem rsT_get (tm : T V) : ∀ (l : List Nat) (t : Nat), T.get (rsT tm l) t = if t ∈ l then T.get tm t else none
  | [], t => by show T.get .nil t = _; rw [T.get_nil]; simp
  | x :: l, t => by
    show T.get (opt (T.get tm x) (rsT tm l) fun v => T.set (rsT tm l) x v) t = _
    cases hx : T.get tm x with
    | none =>
      simp only [opt_none]
      rw [rsT_get tm l t]
      by_cases ht : t = x
      · subst ht; simp [hx]
      · simp [ht]
    | some v =>
      simp only [opt_some]
      rw [T.get_set, rsT_get tm l t]
      by_cases ht : t = x
      · subst ht; simp [hx]
      · simp [ht]
theorem rsA_eq (rds : List Nat) (a : A) : rsA rds a = ⟨rsT a.tm rds, a.df⟩ := by cases a; rfl
theorem rsA_tmp (rds : List Nat) (a : A) {t : Nat} (ht : t ∈ rds) : (rsA rds a).tmp t = a.tmp t := by
  rw [rsA_eq]; unfold A.tmp; simp only [rsT_get, ht, if_true]

/-- the value that a temporary holds when the operations in D are done -/
noncomputable def cur (dt : T Nat) (a0 : A) (vals : Nat → V) (D : Nat → Prop) [DecidablePred D] (t : Nat) : V := match T.get dt t with
  | some i => if D i then vals i else a0.tmp t
  | none => a0.tmp t

/-- a record of an operation done ahead -/
structure RecOk (ops : Array Oper) (bef : List Nat) (dt : T Nat) (a0 : A) (vals : Nat → V) (r : Rec) : Prop where
  pl : PlOk ops bef r.p
  rds : readsOk bef dt r.p r.p.rds = true
  v : r.v = vals r.p.i
  wr : r.p.wr = false
  al : r.new = true → isAl r.p.o.op = true
  df : r.a.df = a0.df
  tm : ∀ t x, T.get r.a.tm t = some x → t ∈ r.p.rds
  tmp : ∀ t ∈ r.p.rds, r.a.tmp t = match T.get dt t with
    | some i => if i ≠ r.p.i ∧ r.p.bef.testBit i = true then vals i else a0.tmp t
    | none => a0.tmp t

/-- what is listed -/
abbrev Lst (listed : Array Bool) (i : Nat) : Prop := listed.getD i false = true

section
variable (P : Tb) (orc : Orc) (go : Go) (ops : Array Oper) (bef : List Nat) (dt : T Nat) (a0 : A) (μ0 : Mu) (h0 : H) (w0 : World) (N : Nat) (full : List (A × H))
/-- where the machine stands in a region, and where the executor does -/
structure Pre (D : Nat → Prop) [DecidablePred D] (A' : Act) (w : World) (l : List Pl) (done wm : Nat) (recs : List Rec) (a : A) (h : H) (μ : Mu) (vals : Nat → V) : Prop where
  plOk : ∀ p ∈ l, PlOk ops bef p
  chk : chkPlan bef dt l done wm = true
  ne : runDraw l P orc go ops recs a h ≠ .fail
  mem : ∀ y ∈ (runDraw l P orc go ops recs a h).list, y ∈ full
  post : Post μ0 h0 w0 μ h w
  dsub : ∀ i, D i → done.testBit i = true
  pend : ∀ i, done.testBit i = true → D i ∨ ∃ r ∈ recs, r.p.i = i
  wmD : ∀ j, wm.testBit j = true → D j
  cov : ∀ i, i < ops.size → done.testBit i = true ∨ ∃ p ∈ l, p.i = i
  cdone : Closed ops.toList fun i => done.testBit i = true
  cD : Closed ops.toList D
  recOk : ∀ r ∈ recs, RecOk ops bef dt a0 vals r
  rdone : ∀ r ∈ recs, done.testBit r.p.i = true
  ids : ∀ r ∈ recs, r.new = true → ¬ D r.p.i → h0.next ≤ r.id ∧ r.id < h.next ∧ μ r.id = none
  idne : ∀ r ∈ recs, ∀ r' ∈ recs, r.new = true → r'.new = true → ¬ D r.p.i → ¬ D r'.p.i → r.p.i ≠ r'.p.i → r.id ≠ r'.id
  atm : ∀ t, a.tmp t = cur dt a0 vals (fun i => done.testBit i = true) t
  adf : a.df = a0.df
  ctm : ∀ t, VR μ (cur dt a0 vals D t) (A'.tmps.getD t undef)
  cdf : DR μ a0.df A'.defers
  size : A'.tmps.size = N
/-- the executor has gone ahead up to the next writer -/
structure Inv (D : Nat → Prop) [DecidablePred D] (A' : Act) (w : World) (l : List Pl) (done wm : Nat) (recs : List Rec) (a : A) (h : H) (μ : Mu) (vals : Nat → V) : Prop extends Pre P orc go ops bef dt a0 μ0 h0 w0 N full D A' w l done wm recs a h μ vals where
  head : l = [] ∨ ∃ p l', l = p :: l' ∧ p.wr = true
end

theorem runDraw_recheck {P : Tb} {orc : Orc} {go : Go} {ops : Array Oper} {l : List Pl} {recs : List Rec} {a : A} {h : H} (hh : l = [] ∨ ∃ p l', l = p :: l' ∧ p.wr = true) (hne : runDraw l P orc go ops recs a h ≠ .fail) : recheckAll P ops h recs = true := by
  rcases hh with rfl | ⟨p, l', rfl, hw⟩
  · change sel (recheckAll P ops h recs) (M.one a h) .fail ≠ .fail at hne
    cases hc : recheckAll P ops h recs with
    | true => rfl
    | false => rw [hc] at hne; exact absurd rfl hne
  · change sel p.wr (sel (recheckAll P ops h recs) (_ : M A) M.fail) (_ : M A) ≠ M.fail at hne
    rw [hw, sel_true] at hne
    cases hc : recheckAll P ops h recs with
    | true => rfl
    | false => rw [hc] at hne; exact absurd rfl hne
theorem recheckAll_mem {P : Tb} {ops : Array Oper} {h : H} : ∀ {recs : List Rec}, recheckAll P ops h recs = true → ∀ r ∈ recs, recheck P ops h r = true
  | [], _, r, hr => by simp at hr
  | x :: recs, hc, r, hr => by
    unfold recheckAll at hc
    cases hx : recheck P ops h x with
    | false => rw [hx] at hc; cases hc
    | true =>
      rw [hx, sel_true] at hc
      rcases List.mem_cons.1 hr with rfl | hr
      · exact hx
      · exact recheckAll_mem hc r hr

section
variable {P : Tb} {orc : Orc} {go : Go} {ops : Array Oper} {bef : List Nat} {dt : T Nat} {l0 : List Pl} {a0 : A} {μ0 : Mu} {h0 : H} {w0 : World} {N : Nat} {full : List (A × H)}

theorem ready_spec {ops : Array Oper} {listed : Array Bool} (hsz : listed.size = ops.size) {q : Nat} (hq : q ∈ Region.ready .any ops listed) : ∃ o, ops[q]? = some o ∧ ¬ Lst listed q ∧ ∀ e ∈ o.after.toList, Region.binds .any e = true → Lst listed e.on := by
  unfold Region.ready at hq
  rw [List.mem_filter, List.mem_range] at hq
  obtain ⟨hlt, h1⟩ := hq
  simp only [Bool.and_eq_true, Bool.not_eq_true'] at h1
  obtain ⟨h2, h3⟩ := h1
  have ho : ops[q]? = some ops[q] := Array.getElem?_eq_getElem hlt
  rw [ho] at h3
  simp only [Option.map_some, Option.getD_some] at h3
  refine ⟨ops[q], ho, ?_, fun e he hb => ?_⟩
  · have hl : listed.getD q true = listed.getD q false := by simp [Array.getD_eq_getD_getElem?, Array.getElem?_eq_getElem (show q < listed.size by omega)]
    rw [hl] at h2
    show ¬ listed.getD q false = true
    rw [h2]; simp
  · rw [← Array.all_toList, List.all_eq_true] at h3
    have := h3 e he
    rw [hb, Bool.not_true, Bool.false_or] at this
    exact this
theorem lst_set {listed : Array Bool} {q : Nat} (hq : q < listed.size) (i : Nat) : Lst (listed.setIfInBounds q true) i ↔ Lst listed i ∨ i = q := by
  show (listed.setIfInBounds q true).getD i false = true ↔ _
  rw [Array.getD_eq_getD_getElem?, Array.getElem?_setIfInBounds]
  by_cases h : q = i
  · subst h; simp [hq]
  · simp only [h, if_false]
    show _ ↔ listed.getD i false = true ∨ _
    rw [Array.getD_eq_getD_getElem?]
    constructor
    · exact .inl
    · rintro (h1 | h1)
      · exact h1
      · exact absurd h1.symm h
/-- the operands of a ready operation -/
theorem Inv.frame {D : Nat → Prop} [DecidablePred D] {A' : Act} {w : World} {l : List Pl} {done wm : Nat} {recs : List Rec} {a : A} {h : H} {μ : Mu} {vals : Nat → V} (st : Static ops bef dt l0)
    (I : Inv P orc go ops bef dt a0 μ0 h0 w0 N full D A' w l done wm recs a h μ vals) {r : Rec} (hr : RecOk ops bef dt a0 vals r) (hq : ¬ D r.p.i) (hdir : ∀ e ∈ r.p.o.after.toList, Region.binds .any e = true → D e.on) : AR μ r.a A' := by
  have hD' : Closed ops.toList fun i => D i ∨ i = r.p.i := by
    intro i o ho hi e he hb
    rcases hi with hi | rfl
    · exact .inl (I.cD i o ho hi e he hb)
    · have := hr.pl.o
      rw [Array.getElem?_toList, this] at ho; cases ho
      exact .inl (hdir e he hb)
  refine ⟨fun t x hx => ?_, by rw [hr.df]; exact I.cdf⟩
  have ht := hr.tm t x hx
  have hx' : r.a.tmp t = x := by unfold A.tmp; rw [hx]; rfl
  rw [← hx', hr.tmp t ht]
  have hc := I.ctm t
  unfold cur at hc
  cases hdt : T.get dt t with
  | none => rw [hdt] at hc; exact hc
  | some i =>
    rw [hdt] at hc
    simp only at hc ⊢
    by_cases hi : i ≠ r.p.i ∧ r.p.bef.testBit i = true
    · rw [if_pos hi]
      have : D i := by
        have hb := hi.2
        rw [hr.pl.bef] at hb
        rcases st.pred hD' (.inr rfl) hb with h1 | h1
        · exact h1
        · exact absurd h1 hi.1
      rw [if_pos this] at hc; exact hc
    · rw [if_neg hi]
      have : ¬ D i := by
        intro hDi
        rcases readsOk_mem hr.rds t ht i hdt with h1 | h1 | h1
        · subst h1; exact hq hDi
        · refine hi ⟨fun e => ?_, h1⟩
          subst e; exact hq hDi
        · exact hq (st.pred I.cD hDi h1)
      rw [if_neg this] at hc; exact hc
end
end Ae

namespace Ae
open Go

section
variable {P : Tb} (ok : P.Ok) {orc : Orc} {go : Go} {ops : Array Oper} {bef : List Nat} {dt : T Nat} {l0 : List Pl} {a0 : A} {μ0 : Mu} {h0 : H} {w0 : World} {N : Nat} {full : List (A × H)}

theorem cur_congr {dt : T Nat} {a0 : A} {vals : Nat → V} {D D' : Nat → Prop} [DecidablePred D] [DecidablePred D'] (t : Nat) (hd : ∀ i, T.get dt t = some i → (D i ↔ D' i)) : cur dt a0 vals D t = cur dt a0 vals D' t := by
  unfold cur
  cases h : T.get dt t with
  | none => rfl
  | some i =>
    simp only
    by_cases hi : D i
    · rw [if_pos hi, if_pos ((hd i h).1 hi)]
    · rw [if_neg hi, if_neg fun e => hi ((hd i h).2 e)]

/-- a pending operation has been done -/
theorem Inv.upd {D D' : Nat → Prop} [DecidablePred D] [DecidablePred D'] {A' : Act} {w w2 : World} {l : List Pl} {done wm : Nat} {recs : List Rec} {a : A} {h : H} {μ μ2 : Mu} {vals : Nat → V} (st : Static ops bef dt l0) (r0 : RR μ0 h0 w0.heap)
    (hsz : ∀ (j t : Nat), (ops[j]?).bind (·.dst) = some t → t < N)
    (I : Inv P orc go ops bef dt a0 μ0 h0 w0 N full D A' w l done wm recs a h μ vals) {q : Nat} {o : Oper} (ho : ops[q]? = some o) (hq : ¬ D q) (hqd : done.testBit q = true) (hdir : ∀ e ∈ o.after.toList, Region.binds .any e = true → D e.on)
    (hD' : ∀ i, D' i ↔ D i ∨ i = q) (hp : Post μ0 h0 w0 μ2 h w2) (hs : Sub μ μ2) {v' : Value} (hv : VR μ2 (vals q) v') (hids : ∀ r ∈ recs, r.new = true → ¬ D' r.p.i → μ2 r.id = none) :
    Inv P orc go ops bef dt a0 μ0 h0 w0 N full D' (A'.put o.dst v') w2 l done wm recs a h μ2 vals := by
  have hnD : ∀ i, ¬ D' i → ¬ D i := fun i h1 h2 => h1 ((hD' i).2 (.inl h2))
  refine { I with post := hp, dsub := ?_, pend := ?_, wmD := ?_, cD := ?_, ids := ?_, idne := ?_, ctm := ?_, cdf := ?_, size := ?_ }
  · intro i hi
    rcases (hD' i).1 hi with h1 | rfl
    · exact I.dsub i h1
    · exact hqd
  · intro i hi
    rcases I.pend i hi with h1 | h1
    · exact .inl ((hD' i).2 (.inl h1))
    · exact .inr h1
  · exact fun j hj => (hD' j).2 (.inl (I.wmD j hj))
  · intro i o' ho' hi e he hb
    rcases (hD' i).1 hi with h1 | rfl
    · exact (hD' _).2 (.inl (I.cD i o' ho' h1 e he hb))
    · rw [Array.getElem?_toList, ho] at ho'; cases ho'
      exact (hD' _).2 (.inl (hdir e he hb))
  · intro r hr hn hnd
    obtain ⟨h1, h2, _⟩ := I.ids r hr hn (hnD _ hnd)
    exact ⟨h1, h2, hids r hr hn hnd⟩
  · intro r hr r' hr' hn hn' hd hd' hne
    exact I.idne r hr r' hr' hn hn' (hnD _ hd) (hnD _ hd') hne
  · intro t
    have hold := VR.mono hs _ _ (I.ctm t)
    by_cases ht : o.dst = some t
    · have hdt := st.dst q t o ho ht
      have hlt : t < A'.tmps.size := by rw [I.size]; exact hsz q t (by rw [ho]; exact ht)
      have hc : cur dt a0 vals D' t = vals q := by unfold cur; rw [hdt]; simp only; rw [if_pos ((hD' q).2 (.inr rfl))]
      rw [hc, ht]
      show VR μ2 _ ((A'.tmps.setIfInBounds t v').getD t undef)
      rw [Array.getD_eq_getD_getElem?, Array.getElem?_setIfInBounds_self_of_lt hlt]; exact hv
    · have hc : cur dt a0 vals D' t = cur dt a0 vals D t := cur_congr t fun i hi => by
        rw [hD' i]
        constructor
        · rintro (h1 | rfl)
          · exact h1
          · obtain ⟨o', h2, h3⟩ := st.dst' i t hi
            rw [ho] at h2; cases h2; exact absurd h3 ht
        · exact .inl
      rw [hc]
      cases hd : o.dst with
      | none => exact hold
      | some d =>
        have hne : d ≠ t := fun e => ht (by rw [hd, e])
        show VR μ2 _ ((A'.tmps.setIfInBounds d v').getD t undef)
        rw [Array.getD_eq_getD_getElem?, Array.getElem?_setIfInBounds_ne hne, ← Array.getD_eq_getD_getElem?]; exact hold
  · rw [put_defers]; exact DR.mono hs _ _ I.cdf
  · rw [put_size]; exact I.size

include ok in
/-- a ready operation that is pending -/
theorem Inv.pendStep {D D' : Nat → Prop} [DecidablePred D] [DecidablePred D'] {A' : Act} {w : World} {l : List Pl} {done wm : Nat} {recs : List Rec} {a : A} {h : H} {μ : Mu} {vals : Nat → V} (st : Static ops bef dt l0) (r0 : RR μ0 h0 w0.heap)
    (hsz : ∀ (j t : Nat), (ops[j]?).bind (·.dst) = some t → t < N)
    (I : Inv P orc go ops bef dt a0 μ0 h0 w0 N full D A' w l done wm recs a h μ vals) {r : Rec} (hr : r ∈ recs) (hq : ¬ D r.p.i) (hqd : done.testBit r.p.i = true) (hdir : ∀ e ∈ r.p.o.after.toList, Region.binds .any e = true → D e.on)
    (hD' : ∀ i, D' i ↔ D i ∨ i = r.p.i) {rd : Option Nat} {F : Fence} (hF : FenceR μ0 rd F) (K : Act → World → Prop) (Q : Exit → Act → World → Prop)
    (hK : ∀ A'' w'' μ2, Inv P orc go ops bef dt a0 μ0 h0 w0 N full D' A'' w'' l done wm recs a h μ2 vals → K A'' w'') :
    if Region.wanted r.p.o (yielded ops A'.tmps) then r.p.o.wpIn F 0 P.P A' w K Q else (∀ f, r.p.o.about P.P w A'.eval = some f → F.fn f) ∧ K (A'.put r.p.o.dst undef) w := by
  have hrec := I.recOk r hr
  have har : AR μ r.a A' := I.frame st hrec hq hdir
  have hrc := recheckAll_mem (runDraw_recheck I.head I.ne) r hr
  unfold recheck evalQ at hrc
  have hbad : wanted ops r.a r.p.o.guard ≠ .bad := fun e => by rw [e] at hrc; cases hrc
  rw [wanted_eq har ops r.p.o hbad (fun j t hj => by rw [I.size]; exact hsz j t hj)]
  have hnD : ∀ i, ¬ D' i → ¬ D i := fun i h1 h2 => h1 ((hD' i).2 (.inl h2))
  have same : ∀ r' ∈ recs, r'.new = true → ¬ D' r'.p.i → μ r'.id = none := fun r' hr' hn hd => (I.ids r' hr' hn (hnD _ hd)).2.2
  cases hw : wanted ops r.a r.p.o.guard with
  | bad => exact absurd hw hbad
  | no =>
    rw [hw] at hrc
    simp only at hrc
    have hv : r.v = .tup [] := by
      cases hn : r.new with
      | true => rw [hn] at hrc; cases hrc
      | false => rw [hn, sel_false] at hrc; exact (V.beq_eq _ _ hrc).symm
    simp only [Bool.false_eq_true, if_false]
    refine ⟨fun f _ => hF.fn f, hK _ _ μ (I.upd st r0 hsz hrec.pl.o hq hqd hdir hD' I.post (Sub.refl μ) ?_ same)⟩
    rw [← hrec.v, hv]; simp only [VR, VRs]; exact ⟨#[], rfl, rfl⟩
  | yes =>
    rw [hw] at hrc
    simp only at hrc
    simp only [if_true]
    refine ⟨fun f _ => hF.fn f, ?_⟩
    have hsem : (r.p.o.semAt F.round A'.eval) = execOp A'.eval r.p.o := by
      refine Oper.semAt_eq _ _ _ fun c hc => ?_
      rw [hc] at hrc; cases hrc
    rw [hsem]
    have hop := aop_ok ok I.post.rr har r.p.o
    cases hres : aop r.p.o.op P r.a h with
    | val v =>
      rw [hres] at hrc hop
      simp only at hrc
      have hv : v = r.v := by
        cases hn : r.new with
        | true => rw [hn] at hrc; cases hrc
        | false => rw [hn, sel_false] at hrc; exact V.beq_eq _ _ hrc
      obtain ⟨v', h1, h2⟩ := hop
      rw [h1]
      exact hK _ _ μ (I.upd st r0 hsz hrec.pl.o hq hqd hdir hD' I.post (Sub.refl μ) (by rw [← hrec.v, ← hv]; exact h2) same)
    | st v h1 =>
      rw [hres] at hrc
      simp only at hrc
      cases hn : r.new with
      | false => rw [hn] at hrc; cases hrc
      | true =>
        rw [hn, sel_true] at hrc
        simp only [Bool.and_eq_true] at hrc
        obtain ⟨⟨hnx, hsr⟩, hso⟩ := hrc
        obtain ⟨s, hex, hal⟩ := al_exec (w := w) (h := h) ok har r.p.o (hrec.al hn)
        obtain ⟨mk, ob, rfl, rfl, hit, hmk, v', w', L, hrun, hL, hL0, hwsz, hold, ht, hos, hout, hor, hvr⟩ := hal v h1 hres (Nat.eq_of_beq_eq_true hnx)
        have hrv := hmk _ _ _ hsr
        have hob := (sameO_eq hso).1
        rw [H.get_new, if_pos rfl] at hob
        obtain ⟨hi0, hi1, hi2⟩ := I.ids r hr hn hq
        have hsub : Sub μ (muNew μ r.id L) := fun b L' e => by
          have : b ≠ r.id := fun e1 => by subst e1; rw [hi2] at e; cases e
          rw [muNew_other this]; exact e
        have hrr := I.post.rr.catch hi1 hi2 hL hwsz hold (by rw [← hob]; exact OR.mono hsub _ hor) (by rw [← hob]; exact hit) (fun _ => hL0)
        have hpost : Post μ0 h0 w0 (muNew μ r.id L) h w' := by
          refine ⟨hrr, fun b hb => ?_, I.post.next, by have := I.post.size; omega, fun c hc hcn => ?_, fun b L' e => ?_, I.post.qk, ht.trans I.post.tape, hos.trans I.post.os, hout.trans I.post.output⟩
          · rw [muNew_other (by omega)]; exact I.post.ext b hb
          · rw [hold c (Nat.lt_of_lt_of_le hc I.post.size)]; exact I.post.frame c hc hcn
          · by_cases hb : b = r.id
            · subst hb; rw [muNew_same] at e; cases e
              right; have := I.post.size; omega
            · rw [muNew_other hb] at e; exact I.post.rng b L' e
        have hrun2 : (execOp A'.eval r.p.o).run P.P w = .ok (.value v') w' := by rw [hex]; simp only [Sem.run_bind, hrun, Result.andThen_ok, Sem.run_pure]
        rw [hrun2]
        refine hK _ _ _ (I.upd st r0 hsz hrec.pl.o hq hqd hdir hD' hpost hsub (by rw [← hrec.v, hrv]; exact hvr r.id) fun r' hr' hn' hd => ?_)
        have hne : r.id ≠ r'.id := I.idne r hr r' hr' hn hn' hq (hnD _ hd) fun e => hd ((hD' _).2 (.inr e.symm))
        rw [muNew_other (Ne.symm hne)]
        exact same r' hr' hn' hd
    | fail => rw [hres] at hrc; cases hrc
    | call f args => rw [hres] at hrc; cases hrc
    | round f args => rw [hres] at hrc; cases hrc
    | alts q => rw [hres] at hrc; cases hrc
end
end Ae

namespace Ae
open Go

/-- a result that lays one block, and no more -/
def Fm (h : H) (r : R) : Prop := ∀ v h1, r = .st v h1 → h1.next = Nat.succ h.next → ∃ ob, h1 = h.new ob
section
variable {h : H}
theorem Fm.fail : Fm h .fail := fun _ _ e => by cases e
theorem Fm.val (v : V) : Fm h (.val v) := fun _ _ e => by cases e
theorem Fm.opt' {α : Type} {o : Option α} {f : α → R} (hs : ∀ a, o = some a → Fm h (f a)) : Fm h (opt o .fail f) := by
  cases o with
  | none => exact Fm.fail
  | some a => exact hs a rfl
theorem Fm.sel' {c : Bool} {f : R} (hs : Fm h f) : Fm h (sel c f .fail) := by
  cases c with
  | false => exact Fm.fail
  | true => exact hs
theorem Fm.cond' {c : Bool} {f : R} (hs : Fm h f) : Fm h (bif c then f else .fail) := by
  cases c with
  | false => exact Fm.fail
  | true => exact hs
theorem Fm.alloc (mk : Nat → V) (o : O) : Fm h (Ae.alloc h mk o) := by
  rw [alloc_eq]; intro v h1 e _; cases e; exact ⟨o, rfl⟩
theorem Fm.cells (cs : List V) : Fm h (newCells cs h) := by unfold newCells; rw [frc_eq]; exact Fm.alloc _ _
theorem al_form {P : Tb} {a : A} (o : Op) (hal : isAl o = true) : Fm h (aop o P a h) := by
  cases o <;> try (cases hal; done)
  case alloc t => exact Fm.opt' fun z hz => Fm.cells z
  case box t x => exact Fm.sel' (Fm.cells _)
  case buildSlice t n ps =>
    show Fm h (opBuildSlice t n ps P a h)
    unfold opBuildSlice
    split
    · split
      · cases Nat.ble _ _
        · exact Fm.fail
        · simp only [cond_true]
          split
          · rw [frc_eq]; exact Fm.alloc _ _
          · exact Fm.fail
      · exact Fm.fail
    · exact Fm.fail
  case makeMap t x =>
    show Fm h (opMkMap t x P a h)
    unfold opMkMap
    split
    · exact Fm.alloc _ _
    · cases isMapT P t
      · exact Fm.fail
      · simp only [cond_true]
        split
        · exact Fm.alloc _ _
        · exact Fm.fail
  case makeSlice t x y =>
    show Fm h (opMkSlice t x y P a h)
    unfold opMkSlice
    split
    · split
      · refine Fm.cond' ?_
        · split
          · rw [frc_eq, frc_eq]; exact Fm.alloc _ _
          · rw [frc_eq, frc_eq]; exact Fm.alloc _ _
      · exact Fm.fail
    · exact Fm.fail
  case convert s d x =>
    show Fm h (aconv (ck P s d) (a.ev x) h)
    cases ck P s d
    case int k =>
      show Fm h ((a.ev x).intK _ _)
      rw [intK_eq]
      cases a.ev x <;> first | exact Fm.opt' (fun _ _ => Fm.val _) | (show Fm h (Ae.wr _ _); unfold Ae.wr; rw [frcI_eq]; exact Fm.val _)
    case str => exact Fm.opt' fun p hp => Fm.val _
    case strBytes => exact Fm.opt' fun p hp => by rw [frc_eq]; exact Fm.alloc _ _
    case bytesStr =>
      show Fm h (convBytesStr _ h)
      unfold convBytesStr
      split
      · exact Fm.fail
      · exact Fm.val _
      · split
        · split
          · exact Fm.val _
          · exact Fm.opt' fun _ _ => Fm.val _
        · exact Fm.fail
    case bytes =>
      show Fm h (convBytes _ h)
      unfold convBytes
      split
      · split
        · rw [sel_eq]; split
          · intro v h1 e hn; cases e; rw [H.next_put] at hn; omega
          · exact Fm.fail
        · exact Fm.fail
      · exact Fm.fail
    case bad => exact Fm.fail
end
end Ae

namespace Ae
open Go

section
variable {P : Tb} {orc : Orc} {go : Go} {ops : Array Oper} {bef : List Nat} {dt : T Nat} {l0 : List Pl} {a0 : A} {μ0 : Mu} {h0 : H} {w0 : World} {N : Nat} {full : List (A × H)}

def valsPut (vals : Nat → V) (i : Nat) (v : V) : Nat → V := fun j => if j = i then v else vals j

theorem put_tmp (a : A) (d : Option Nat) (v : V) (t : Nat) : (a.put d v).tmp t = if d = some t then v else a.tmp t := by
  cases d with
  | none => rfl
  | some d =>
    have hA : A.put a (some d) v = ⟨a.tm.set d v, a.df⟩ := by cases a; rfl
    rw [hA]
    unfold A.tmp
    simp only [T.get_set]
    by_cases h : t = d
    · subst h; simp
    · have : ¬ (some d = some t) := fun e => h (by cases e; rfl)
      rw [if_neg h, if_neg this]
theorem put_df (a : A) (d : Option Nat) (v : V) : (a.put d v).df = a.df := by cases d <;> cases a <;> rfl

/-- the executor does one operation ahead -/
theorem Pre.ahead {D : Nat → Prop} [DecidablePred D] {A' : Act} {w : World} {p : Pl} {l : List Pl} {done wm : Nat} {recs : List Rec} {a : A} {h h' : H} {μ : Mu} {vals : Nat → V} (st : Static ops bef dt l0)
    (I : Pre P orc go ops bef dt a0 μ0 h0 w0 N full D A' w (p :: l) done wm recs a h μ vals) (hw : p.wr = false) (v : V) (new : Bool) (hnew : new = true → isAl p.o.op = true)
    (hh : (new = false ∧ h' = h) ∨ (new = true ∧ ∃ ob, h' = h.new ob))
    (hne : runDraw l P orc go ops (⟨p, rsA p.rds a, v, new, h.next⟩ :: recs) (a.put p.o.dst v) h' ≠ .fail)
    (hmem : ∀ y ∈ (runDraw l P orc go ops (⟨p, rsA p.rds a, v, new, h.next⟩ :: recs) (a.put p.o.dst v) h').list, y ∈ full) :
    Pre P orc go ops bef dt a0 μ0 h0 w0 N full D A' w l (done ||| 2 ^ p.i) wm (⟨p, rsA p.rds a, v, new, h.next⟩ :: recs) (a.put p.o.dst v) h' μ (valsPut vals p.i v) := by
  have hc := chkPlan_cons I.chk
  have hpl := I.plOk p (by simp)
  have hnd : ∀ i, done.testBit i = true → i ≠ p.i := fun i hi e => by subst e; rw [hc.new] at hi; cases hi
  have hvp : ∀ i, i ≠ p.i → valsPut vals p.i v i = vals i := fun i hi => if_neg hi
  have hle : h.next ≤ h'.next := by
    rcases hh with ⟨_, rfl⟩ | ⟨_, ob, rfl⟩
    · exact Nat.le_refl _
    · rw [H.next_new]; omega
  have hcd : Closed ops.toList fun i => (done ||| 2 ^ p.i).testBit i = true := by
    intro i o ho hi e he hb
    rcases or_two_pow.1 hi with h1 | rfl
    · exact or_two_pow.2 (.inl (I.cdone i o ho h1 e he hb))
    · rw [Array.getElem?_toList, hpl.o] at ho; cases ho
      exact or_two_pow.2 (.inl (hc.dir e he hb))
  have hpost : Post μ0 h0 w0 μ h' w := by
    rcases hh with ⟨_, rfl⟩ | ⟨_, ob, rfl⟩
    · exact I.post
    · exact ⟨I.post.rr.ghost ob, I.post.ext, Nat.le_trans I.post.next hle, I.post.size, I.post.frame, I.post.rng, fun b hb => (I.post.rr.qnew ob b (by rw [I.post.qk b hb]; exact hb)).trans (I.post.qk b hb), I.post.tape, I.post.os, I.post.output⟩
  refine ⟨fun q hq => I.plOk q (List.mem_cons_of_mem _ hq), ?_, hne, hmem, hpost, ?_, ?_, I.wmD, ?_, hcd, I.cD, ?_, ?_, ?_, ?_, ?_, ?_, ?_, I.cdf, I.size⟩
  · have := hc.rest; rw [hw] at this; exact this
  · exact fun i hi => or_two_pow.2 (.inl (I.dsub i hi))
  · intro i hi
    rcases or_two_pow.1 hi with h1 | rfl
    · rcases I.pend i h1 with h2 | ⟨r, hr, h2⟩
      · exact .inl h2
      · exact .inr ⟨r, List.mem_cons_of_mem _ hr, h2⟩
    · exact .inr ⟨_, List.mem_cons_self, rfl⟩
  · intro i hi
    rcases I.cov i hi with h1 | ⟨q, hq, h1⟩
    · exact .inl (or_two_pow.2 (.inl h1))
    · rcases List.mem_cons.1 hq with rfl | hq
      · exact .inl (or_two_pow.2 (.inr h1.symm))
      · exact .inr ⟨q, hq, h1⟩
  · intro r hr
    rcases List.mem_cons.1 hr with rfl | hr
    · refine ⟨hpl, hc.rds, (if_pos rfl).symm, hw, hnew, by rw [rsA_eq]; exact I.adf, fun t x hx => ?_, fun t ht => ?_⟩
      · rw [rsA_eq] at hx
        simp only [rsT_get] at hx
        by_cases ht : t ∈ p.rds
        · exact ht
        · rw [if_neg ht] at hx; cases hx
      · show (rsA p.rds a).tmp t = _
        rw [rsA_tmp _ _ ht, I.atm t]
        unfold cur
        cases hdt : T.get dt t with
        | none => rfl
        | some i =>
          simp only
          by_cases hd : done.testBit i = true
          · have hi : i ≠ p.i := hnd i hd
            have hb : p.bef.testBit i = true := by
              rcases readsOk_mem hc.rds t ht i hdt with h1 | h1 | h1
              · exact absurd h1 hi
              · exact h1
              · have := st.pred I.cdone hd h1
                rw [hc.new] at this; cases this
            rw [if_pos hd, if_pos ⟨hi, hb⟩, hvp i hi]
          · have : ¬ (i ≠ p.i ∧ p.bef.testBit i = true) := by
              rintro ⟨hi, hb⟩
              rw [hpl.bef] at hb
              rcases or_two_pow.1 (st.pred hcd (or_two_pow.2 (.inr rfl)) hb) with h1 | h1
              · exact hd h1
              · exact hi h1
            rw [if_neg hd, if_neg this]
    · have ho := I.recOk r hr
      have hrd := I.rdone r hr
      refine ⟨ho.pl, ho.rds, ho.v.trans (hvp _ (hnd _ hrd)).symm, ho.wr, ho.al, ho.df, ho.tm, fun t ht => ?_⟩
      rw [ho.tmp t ht]
      cases hdt : T.get dt t with
      | none => rfl
      | some i =>
        simp only
        by_cases hi : i ≠ r.p.i ∧ r.p.bef.testBit i = true
        · have hb := hi.2
          rw [ho.pl.bef] at hb
          rw [if_pos hi, if_pos hi, hvp i (hnd i (st.pred I.cdone hrd hb))]
        · rw [if_neg hi, if_neg hi]
  · intro r hr
    rcases List.mem_cons.1 hr with rfl | hr
    · exact or_two_pow.2 (.inr rfl)
    · exact or_two_pow.2 (.inl (I.rdone r hr))
  · intro r hr hn hd
    rcases List.mem_cons.1 hr with rfl | hr
    · refine ⟨I.post.next, ?_, I.post.rr.fresh⟩
      rcases hh with ⟨h1, _⟩ | ⟨_, ob, rfl⟩
      · have : new = true := hn
        rw [h1] at this; cases this
      · show h.next < _; rw [H.next_new]; omega
    · obtain ⟨h1, h2, h3⟩ := I.ids r hr hn hd
      exact ⟨h1, Nat.lt_of_lt_of_le h2 hle, h3⟩
  · intro r hr r' hr' hn hn' hd hd' hne
    rcases List.mem_cons.1 hr with rfl | hr <;> rcases List.mem_cons.1 hr' with rfl | hr'
    · exact absurd rfl hne
    · have := (I.ids r' hr' hn' hd').2.1
      show h.next ≠ r'.id; omega
    · have := (I.ids r hr hn hd).2.1
      show r.id ≠ h.next; omega
    · exact I.idne r hr r' hr' hn hn' hd hd' hne
  · intro t
    rw [put_tmp]
    by_cases ht : p.o.dst = some t
    · rw [if_pos ht]
      unfold cur
      rw [st.dst p.i t p.o hpl.o ht]
      simp only
      rw [if_pos (or_two_pow.2 (.inr rfl))]
      exact (if_pos rfl).symm
    · rw [if_neg ht, I.atm t]
      unfold cur
      cases hdt : T.get dt t with
      | none => rfl
      | some i =>
        simp only
        have hi : i ≠ p.i := fun e => by
          subst e
          obtain ⟨o', h1, h2⟩ := st.dst' _ t hdt
          rw [hpl.o] at h1; cases h1; exact ht h2
        by_cases hd : done.testBit i = true
        · rw [if_pos hd, if_pos (or_two_pow.2 (.inl hd)), hvp i hi]
        · rw [if_neg hd, if_neg fun e => by rcases or_two_pow.1 e with h1 | h1; exact hd h1; exact hi h1]
  · rw [put_df]; exact I.adf
  · intro t
    have := I.ctm t
    unfold cur at this ⊢
    cases hdt : T.get dt t with
    | none => rw [hdt] at this; exact this
    | some i =>
      rw [hdt] at this
      simp only at this ⊢
      by_cases hd : D i
      · rw [if_pos hd] at this ⊢
        rw [hvp i (hnd i (I.dsub i hd))]; exact this
      · rw [if_neg hd] at this ⊢; exact this
end
end Ae

namespace Ae
open Go

section
variable {P : Tb} {orc : Orc} {go : Go} {ops : Array Oper} {bef : List Nat} {dt : T Nat} {l0 : List Pl} {a0 : A} {μ0 : Mu} {h0 : H} {w0 : World} {N : Nat} {full : List (A × H)}

/-- the executor goes ahead up to the next writer -/
theorem Pre.advance {D : Nat → Prop} [DecidablePred D] {A' : Act} {w : World} {μ : Mu} (st : Static ops bef dt l0) : ∀ {l : List Pl} {done wm : Nat} {recs : List Rec} {a : A} {h : H} {vals : Nat → V},
    Pre P orc go ops bef dt a0 μ0 h0 w0 N full D A' w l done wm recs a h μ vals →
    ∃ l' done' wm' recs' a' h' vals', Inv P orc go ops bef dt a0 μ0 h0 w0 N full D A' w l' done' wm' recs' a' h' μ vals'
  | [], done, wm, recs, a, h, vals, I => ⟨_, _, _, _, _, _, _, ⟨I, .inl rfl⟩⟩
  | p :: l, done, wm, recs, a, h, vals, I => by
    cases hw : p.wr with
    | true => exact ⟨_, _, _, _, _, _, _, ⟨I, .inr ⟨p, l, rfl, hw⟩⟩⟩
    | false =>
      have hred : runDraw (p :: l) P orc go ops recs a h = quiet p h (evalQ P ops p.o (rsA p.rds a) h) fun v new h' => runDraw l P orc go ops (⟨p, rsA p.rds a, v, new, h.next⟩ :: recs) (A.put a p.o.dst v) h' := by
        change sel p.wr _ _ = _
        rw [hw]; rfl
      have hne := I.ne
      have hmem := I.mem
      rw [hred] at hne hmem
      cases hr : evalQ P ops p.o (rsA p.rds a) h with
      | val v =>
        rw [hr] at hne hmem
        exact Pre.advance st (I.ahead st hw v false (fun e => by cases e) (.inl ⟨rfl, rfl⟩) hne hmem)
      | st v h' =>
        rw [hr] at hne hmem
        change sel p.al (sel (Nat.beq h'.next (Nat.succ h.next)) (runDraw l P orc go ops (⟨p, rsA p.rds a, v, true, h.next⟩ :: recs) (A.put a p.o.dst v) h') .fail) .fail ≠ .fail at hne
        change ∀ y ∈ (sel p.al (sel (Nat.beq h'.next (Nat.succ h.next)) (runDraw l P orc go ops (⟨p, rsA p.rds a, v, true, h.next⟩ :: recs) (A.put a p.o.dst v) h') .fail) .fail).list, y ∈ full at hmem
        cases hal : p.al with
        | false => rw [hal] at hne; exact absurd rfl hne
        | true =>
          cases hnx : Nat.beq h'.next (Nat.succ h.next) with
          | false => rw [hal, hnx] at hne; exact absurd rfl hne
          | true =>
            rw [hal, hnx] at hne hmem
            have hpl := I.plOk p (by simp)
            have hisal : isAl p.o.op = true := by rw [← hpl.al]; exact hal
            have hob : ∃ ob, h' = h.new ob := by
              unfold evalQ at hr
              cases hwt : wanted ops (rsA p.rds a) p.o.guard with
              | yes => rw [hwt] at hr; exact al_form p.o.op hisal v h' hr (Nat.eq_of_beq_eq_true hnx)
              | no => rw [hwt] at hr; cases hr
              | bad => rw [hwt] at hr; cases hr
            exact Pre.advance st (I.ahead st hw v true (fun _ => hisal) (.inr ⟨rfl, hob⟩) hne hmem)
      | fail => rw [hr] at hne; exact absurd rfl hne
      | call f args => rw [hr] at hne; exact absurd rfl hne
      | round f args => rw [hr] at hne; exact absurd rfl hne
      | alts q => rw [hr] at hne; exact absurd rfl hne
end
end Ae

namespace Ae
open Go

theorem stillPend_mem {m : Nat} : ∀ {recs : List Rec} {r : Rec}, r ∈ stillPend m recs ↔ r ∈ recs ∧ m.testBit r.p.i = false
  | [], r => by simp [stillPend]
  | x :: recs, r => by
    unfold stillPend
    cases hx : m.testBit x.p.i with
    | true =>
      simp only [cond_true, stillPend_mem (recs := recs), List.mem_cons]
      constructor
      · rintro ⟨h1, h2⟩; exact ⟨.inr h1, h2⟩
      · rintro ⟨rfl | h1, h2⟩
        · rw [hx] at h2; cases h2
        · exact ⟨h1, h2⟩
    | false =>
      simp only [cond_false, List.mem_cons, stillPend_mem (recs := recs)]
      constructor
      · rintro (rfl | ⟨h1, h2⟩)
        · exact ⟨.inl rfl, hx⟩
        · exact ⟨.inr h1, h2⟩
      · rintro ⟨rfl | h1, h2⟩
        · exact .inl rfl
        · exact .inr ⟨h1, h2⟩

section
variable {P : Tb} (ok : P.Ok) {orc : Orc} {go : Go} (hgo : GoOk P go) (horc : OrcOk P orc) {ops : Array Oper} {bef : List Nat} {dt : T Nat} {l0 : List Pl} {a0 : A} {μ0 : Mu} {h0 : H} {w0 : World} {N : Nat} {full : List (A × H)}

/-- the operands of the writer -/
theorem Inv.frameW {D : Nat → Prop} [DecidablePred D] {A' : Act} {w : World} {p : Pl} {l : List Pl} {done wm : Nat} {recs : List Rec} {a : A} {h : H} {μ : Mu} {vals : Nat → V} (st : Static ops bef dt l0)
    (I : Inv P orc go ops bef dt a0 μ0 h0 w0 N full D A' w (p :: l) done wm recs a h μ vals) (hq : ¬ D p.i) (hdir : ∀ e ∈ p.o.after.toList, Region.binds .any e = true → D e.on) : AR μ (rsA p.rds a) A' := by
  have hc := chkPlan_cons I.chk
  have hpl := I.plOk p (by simp)
  have hD' : Closed ops.toList fun i => D i ∨ i = p.i := by
    intro i o ho hi e he hb
    rcases hi with hi | rfl
    · exact .inl (I.cD i o ho hi e he hb)
    · rw [Array.getElem?_toList, hpl.o] at ho; cases ho
      exact .inl (hdir e he hb)
  refine ⟨fun t x hx => ?_, by rw [rsA_eq]; show DR μ a.df _; rw [I.adf]; exact I.cdf⟩
  have ht : t ∈ p.rds := by
    rw [rsA_eq] at hx
    simp only [rsT_get] at hx
    by_cases ht : t ∈ p.rds
    · exact ht
    · rw [if_neg ht] at hx; cases hx
  have hx' : (rsA p.rds a).tmp t = x := by unfold A.tmp; rw [hx]; rfl
  rw [← hx', rsA_tmp _ _ ht, I.atm t]
  have hcc := I.ctm t
  rw [cur_congr (D' := D) t fun i hi => ?_]
  · exact hcc
  · constructor
    · intro hd
      rcases readsOk_mem hc.rds t ht i hi with h1 | h1 | h1
      · subst h1; rw [hc.new] at hd; cases hd
      · rw [hpl.bef] at h1
        rcases st.pred hD' (.inr rfl) h1 with h2 | h2
        · exact h2
        · subst h2; rw [hc.new] at hd; cases hd
      · have := st.pred I.cdone hd h1
        rw [hc.new] at this; cases this
    · exact I.dsub i

include ok hgo horc in
/-- the next writer -/
theorem Inv.writeStep {D D' : Nat → Prop} [DecidablePred D] [DecidablePred D'] {A' : Act} {w : World} {p : Pl} {l : List Pl} {done wm : Nat} {recs : List Rec} {a : A} {h : H} {μ : Mu} {vals : Nat → V} (st : Static ops bef dt l0) (r0 : RR μ0 h0 w0.heap)
    (hsz : ∀ (j t : Nat), (ops[j]?).bind (·.dst) = some t → t < N)
    (I : Inv P orc go ops bef dt a0 μ0 h0 w0 N full D A' w (p :: l) done wm recs a h μ vals) (hw : p.wr = true) (hq : ¬ D p.i) (hdir : ∀ e ∈ p.o.after.toList, Region.binds .any e = true → D e.on)
    (hD' : ∀ i, D' i ↔ D i ∨ i = p.i) {rd : Option Nat} {F : Fence} (hF : FenceR μ0 rd F) (K : Act → World → Prop) (Q : Exit → Act → World → Prop)
    (hK : ∀ A'' w'' l done wm recs a h μ2 vals, Inv P orc go ops bef dt a0 μ0 h0 w0 N full D' A'' w'' l done wm recs a h μ2 vals → K A'' w'') :
    if Region.wanted p.o (yielded ops A'.tmps) then p.o.wpIn F 0 P.P A' w K Q else (∀ f, p.o.about P.P w A'.eval = some f → F.fn f) ∧ K (A'.put p.o.dst undef) w := by
  have hc := chkPlan_cons I.chk
  have hpl := I.plOk p (by simp)
  have har := I.frameW st hq hdir
  have hne := I.ne
  have hmem := I.mem
  have hred : runDraw (p :: l) P orc go ops recs a h = (step P orc go ops p.o (rsA p.rds a) h).bind fun a' h' => runDraw l P orc go ops (stillPend p.bef recs) (A.put a p.o.dst (opt p.o.dst .any fun t => a'.tmp t)) h' := by
    have hrc := runDraw_recheck I.head I.ne
    change sel p.wr (sel (recheckAll P ops h recs) (_ : M A) M.fail) (_ : M A) = _
    rw [hw, sel_true, hrc, sel_true]
    rfl
  rw [hred] at hne hmem
  obtain ⟨h1, h2⟩ := M.bind_mem hne
  have hstep := step_ok ok hgo horc I.post.rr har (hF.mono (I.post.sub r0)) ops p.o (fun t ht => by rw [I.size]; exact hsz p.i t (by rw [hpl.o]; exact ht)) (fun j t hj => by rw [I.size]; exact hsz j t hj) h1 Q
  have next : ∀ A'' w'', StepD μ h w A' p.o.dst (step P orc go ops p.o (rsA p.rds a) h).list A'' w'' → K A'' w'' := by
    rintro A'' w'' ⟨⟨a1, h1', μ1, hm, hp, ha1, hs1⟩, v', rfl⟩
    obtain ⟨h3, h4⟩ := h2 _ hm
    have hnd : ∀ i, done.testBit i = true → i ≠ p.i := fun i hi e => by subst e; rw [hc.new] at hi; cases hi
    have hsub := hp.sub I.post.rr
    have hpost := I.post.trans hp
    have hnD : ∀ i, ¬ D' i → ¬ D i := fun i h1 h2 => h1 ((hD' i).2 (.inl h2))
    let val : V := opt p.o.dst .any fun t => a1.tmp t
    have hvp : ∀ i, i ≠ p.i → valsPut vals p.i val i = vals i := fun i hi => if_neg hi
    have hcd : Closed ops.toList fun i => (done ||| 2 ^ p.i).testBit i = true := by
      intro i o ho hi e he hb
      rcases or_two_pow.1 hi with h1 | rfl
      · exact or_two_pow.2 (.inl (I.cdone i o ho h1 e he hb))
      · rw [Array.getElem?_toList, hpl.o] at ho; cases ho
        exact or_two_pow.2 (.inl (hc.dir e he hb))
    have hpre : Pre P orc go ops bef dt a0 μ0 h0 w0 N full D' (A'.put p.o.dst v') w'' l (done ||| 2 ^ p.i) (wm ||| 2 ^ p.i) (stillPend p.bef recs) (A.put a p.o.dst val) h1' μ1 (valsPut vals p.i val) := by
      refine ⟨fun q hq => I.plOk q (List.mem_cons_of_mem _ hq), ?_, h3, fun y hy => hmem y (h4 y hy), hpost, ?_, ?_, ?_, ?_, hcd, ?_, ?_, ?_, ?_, ?_, ?_, ?_, ?_, ?_, ?_⟩
      · have := hc.rest; rw [hw] at this; exact this
      · intro i hi
        rcases (hD' i).1 hi with h5 | rfl
        · exact or_two_pow.2 (.inl (I.dsub i h5))
        · exact or_two_pow.2 (.inr rfl)
      · intro i hi
        rcases or_two_pow.1 hi with h5 | rfl
        · rcases I.pend i h5 with h6 | ⟨r, hr, h6⟩
          · exact .inl ((hD' i).2 (.inl h6))
          · by_cases hb : p.bef.testBit r.p.i = true
            · left
              rw [hpl.bef] at hb
              have hcl : Closed ops.toList fun i => D i ∨ i = p.i := by
                intro i o ho hi e he hb
                rcases hi with hi | rfl
                · exact .inl (I.cD i o ho hi e he hb)
                · rw [Array.getElem?_toList, hpl.o] at ho; cases ho
                  exact .inl (hdir e he hb)
              rw [← h6]
              exact (hD' _).2 (st.pred hcl (.inr rfl) hb)
            · exact .inr ⟨r, stillPend_mem.2 ⟨hr, by simpa using hb⟩, h6⟩
        · exact .inl ((hD' _).2 (.inr rfl))
      · intro j hj
        rcases or_two_pow.1 hj with h5 | rfl
        · exact (hD' _).2 (.inl (I.wmD j h5))
        · exact (hD' _).2 (.inr rfl)
      · intro i hi
        rcases I.cov i hi with h5 | ⟨q, hq, h5⟩
        · exact .inl (or_two_pow.2 (.inl h5))
        · rcases List.mem_cons.1 hq with rfl | hq
          · exact .inl (or_two_pow.2 (.inr h5.symm))
          · exact .inr ⟨q, hq, h5⟩
      · intro i o ho hi e he hb
        rcases (hD' i).1 hi with h5 | rfl
        · exact (hD' _).2 (.inl (I.cD i o ho h5 e he hb))
        · rw [Array.getElem?_toList, hpl.o] at ho; cases ho
          exact (hD' _).2 (.inl (hdir e he hb))
      · intro r hr
        have hr := (stillPend_mem.1 hr).1
        have ho := I.recOk r hr
        have hrd := I.rdone r hr
        refine ⟨ho.pl, ho.rds, ho.v.trans (hvp _ (hnd _ hrd)).symm, ho.wr, ho.al, ho.df, ho.tm, fun t ht => ?_⟩
        rw [ho.tmp t ht]
        cases hdt : T.get dt t with
        | none => rfl
        | some i =>
          simp only
          by_cases hi : i ≠ r.p.i ∧ r.p.bef.testBit i = true
          · have hb := hi.2
            rw [ho.pl.bef] at hb
            rw [if_pos hi, if_pos hi, hvp i (hnd i (st.pred I.cdone hrd hb))]
          · rw [if_neg hi, if_neg hi]
      · exact fun r hr => or_two_pow.2 (.inl (I.rdone r (stillPend_mem.1 hr).1))
      · intro r hr hn hd
        obtain ⟨h5, h6, h7⟩ := I.ids r (stillPend_mem.1 hr).1 hn (hnD _ hd)
        exact ⟨h5, Nat.lt_of_lt_of_le h6 hp.next, by rw [hp.ext _ h6]; exact h7⟩
      · intro r hr r' hr' hn hn' hd hd' hne
        exact I.idne r (stillPend_mem.1 hr).1 r' (stillPend_mem.1 hr').1 hn hn' (hnD _ hd) (hnD _ hd') hne
      · intro t
        rw [put_tmp]
        by_cases ht : p.o.dst = some t
        · rw [if_pos ht]
          unfold cur
          rw [st.dst p.i t p.o hpl.o ht]
          simp only
          rw [if_pos (or_two_pow.2 (.inr rfl))]
          exact (if_pos rfl).symm
        · rw [if_neg ht, I.atm t]
          unfold cur
          cases hdt : T.get dt t with
          | none => rfl
          | some i =>
            simp only
            have hi : i ≠ p.i := fun e => by
              subst e
              obtain ⟨o', h5, h6⟩ := st.dst' _ t hdt
              rw [hpl.o] at h5; cases h5; exact ht h6
            by_cases hd : done.testBit i = true
            · rw [if_pos hd, if_pos (or_two_pow.2 (.inl hd)), hvp i hi]
            · rw [if_neg hd, if_neg fun e => by rcases or_two_pow.1 e with h5 | h5; exact hd h5; exact hi h5]
      · rw [put_df]; exact I.adf
      · intro t
        by_cases ht : p.o.dst = some t
        · have hcur : cur dt a0 (valsPut vals p.i val) D' t = a1.tmp t := by
            unfold cur
            rw [st.dst p.i t p.o hpl.o ht]
            simp only
            rw [if_pos ((hD' _).2 (.inr rfl))]
            show (if p.i = p.i then val else _) = _
            rw [if_pos rfl]
            show opt p.o.dst .any (fun t => a1.tmp t) = _
            rw [ht]; rfl
          rw [hcur]
          exact tmp_vr ha1.tm t
        · have hcur : cur dt a0 (valsPut vals p.i val) D' t = cur dt a0 vals D t := by
            unfold cur
            cases hdt : T.get dt t with
            | none => rfl
            | some i =>
              simp only
              have hi : i ≠ p.i := fun e => by
                subst e
                obtain ⟨o', h5, h6⟩ := st.dst' _ t hdt
                rw [hpl.o] at h5; cases h5; exact ht h6
              by_cases hd : D i
              · rw [if_pos hd, if_pos ((hD' i).2 (.inl hd)), hvp i hi]
              · rw [if_neg hd, if_neg fun e => by rcases (hD' i).1 e with h5 | h5; exact hd h5; exact hi h5]
          rw [hcur]
          have hold := VR.mono hsub _ _ (I.ctm t)
          cases hd : p.o.dst with
          | none => exact hold
          | some d =>
            have hne : d ≠ t := fun e => ht (by rw [hd, e])
            show VR μ1 _ ((A'.tmps.setIfInBounds d v').getD t undef)
            rw [Array.getD_eq_getD_getElem?, Array.getElem?_setIfInBounds_ne hne, ← Array.getD_eq_getD_getElem?]; exact hold
      · rw [put_defers]; exact DR.mono hsub _ _ I.cdf
      · rw [put_size]; exact I.size
    obtain ⟨l', d', wm', rc', a', hh', vs', hI⟩ := hpre.advance st
    exact hK _ _ _ _ _ _ _ _ _ _ hI
  split
  · rename_i hwt
    rw [if_pos hwt] at hstep
    exact Oper.wpIn_mono next hstep
  · rename_i hwt
    rw [if_neg hwt] at hstep
    exact ⟨hstep.1, next _ _ hstep.2⟩
end
end Ae

namespace Ae
open Go

/-- how many are not listed -/
def unl (n : Nat) (listed : Array Bool) : Nat := ((List.range n).filter fun i => !listed.getD i false).length
theorem unl_zero {n : Nat} {listed : Array Bool} (h : unl n listed = 0) {i : Nat} (hi : i < n) : Lst listed i := by
  unfold unl at h
  have h1 := List.eq_nil_of_length_eq_zero h
  rw [List.filter_eq_nil_iff] at h1
  have := h1 i (List.mem_range.2 hi)
  cases h2 : listed.getD i false with
  | true => exact h2
  | false => rw [h2] at this; exact absurd rfl this
theorem unl_set {n : Nat} {listed : Array Bool} {q : Nat} (hq : q < listed.size) (hn : q < n) (hl : ¬ Lst listed q) : unl n (listed.setIfInBounds q true) < unl n listed := by
  unfold unl
  refine filter_lt (fun i => !listed.getD i false) (fun i => !(listed.setIfInBounds q true).getD i false) (fun i hi => ?_) q ?_ ?_ _ (List.mem_range.2 hn)
  · simp only [Bool.not_eq_true'] at hi ⊢
    cases h : listed.getD i false with
    | false => rfl
    | true => rw [(lst_set hq i).2 (.inl h)] at hi; cases hi
  · simp only [Bool.not_eq_true']
    cases h : listed.getD q false with
    | false => rfl
    | true => exact absurd h hl
  · have : (listed.setIfInBounds q true).getD q false = true := (lst_set hq q).2 (.inr rfl)
    simp [this]

section
variable {P : Tb} (ok : P.Ok) {orc : Orc} (horc : OrcOk P orc)

/-- all are done: the executor's outcome -/
theorem Inv.finish {go : Go} {ops : Array Oper} {bef : List Nat} {dt : T Nat} {l0 : List Pl} {a0 : A} {μ0 : Mu} {h0 : H} {w0 : World} {A0 : Act} {full : List (A × H)} {D : Nat → Prop} [DecidablePred D] {A' : Act} {w : World} {l : List Pl} {done wm : Nat} {recs : List Rec} {a : A} {h : H} {μ : Mu} {vals : Nat → V}
    (st : Static ops bef dt l0) (I : Inv P orc go ops bef dt a0 μ0 h0 w0 A0.tmps.size full D A' w l done wm recs a h μ vals) (hall : ∀ i, i < ops.size → D i) : StepQ μ0 h0 w0 A0 full A' w := by
  have hl : l = [] := by
    rcases I.head with h1 | ⟨p, l', rfl, _⟩
    · exact h1
    · have hc := chkPlan_cons I.chk
      have hpl := I.plOk p (by simp)
      have := I.dsub p.i (hall p.i (Array.getElem?_eq_some_iff.1 hpl.o).1)
      rw [hc.new] at this; cases this
  subst hl
  have hrc := runDraw_recheck I.head I.ne
  have hmem := I.mem
  have hred : runDraw [] P orc go ops recs a h = .one a h := by
    change sel (recheckAll P ops h recs) (M.one a h) .fail = _
    rw [hrc]; rfl
  rw [hred] at hmem
  refine ⟨a, h, μ, hmem _ (List.mem_singleton.2 rfl), I.post, ⟨fun t v hv => ?_, by rw [I.adf]; exact I.cdf⟩, I.size⟩
  have h1 : a.tmp t = v := by unfold A.tmp; rw [hv]; rfl
  rw [← h1, I.atm t]
  have := I.ctm t
  rw [cur_congr (D' := D) t fun i hi => ?_]
  · exact this
  · obtain ⟨o, h2, _⟩ := st.dst' i t hi
    have hlt := (Array.getElem?_eq_some_iff.1 h2).1
    exact ⟨fun _ => hall i hlt, fun _ => I.dsub i (hall i hlt)⟩

/-- what is not done has one that is ready -/
theorem ready_some {ops : Array Oper} {bef : List Nat} {dt : T Nat} {listed : Array Bool} (hsz : listed.size = ops.size) : ∀ (l : List Pl) (done wm : Nat), chkPlan bef dt l done wm = true → (∀ p ∈ l, PlOk ops bef p) →
    (∀ i, done.testBit i = true → Lst listed i) → (∃ p ∈ l, ¬ Lst listed p.i) → Region.ready .any ops listed ≠ []
  | [], _, _, _, _, _, ⟨p, hp, _⟩ => by simp at hp
  | p :: l, done, wm, hc, hpl, hd, ⟨q, hq, hnq⟩ => by
    have hck := chkPlan_cons hc
    by_cases hp : Lst listed p.i
    · refine ready_some hsz l _ _ hck.rest (fun p' hp' => hpl p' (List.mem_cons_of_mem _ hp')) (fun i hi => ?_) ⟨q, ?_, hnq⟩
      · rcases or_two_pow.1 hi with h1 | rfl
        · exact hd i h1
        · exact hp
      · rcases List.mem_cons.1 hq with rfl | hq
        · exact absurd hp hnq
        · exact hq
    · intro he
      have ho := (hpl p (by simp)).o
      have hlt := (Array.getElem?_eq_some_iff.1 ho).1
      have hmem : p.i ∈ Region.ready .any ops listed := by
        unfold Region.ready
        rw [List.mem_filter, List.mem_range]
        refine ⟨hlt, ?_⟩
        rw [ho]
        simp only [Bool.and_eq_true, Bool.not_eq_true', Option.map_some, Option.getD_some]
        refine ⟨?_, ?_⟩
        · have hl : listed.getD p.i true = listed.getD p.i false := by simp [Array.getD_eq_getD_getElem?, Array.getElem?_eq_getElem (show p.i < listed.size by omega)]
          rw [hl]
          cases h : listed.getD p.i false with
          | false => rfl
          | true => exact absurd h hp
        · rw [← Array.all_toList, List.all_eq_true]
          intro e he'
          cases hb : Region.binds .any e with
          | false => rfl
          | true => rw [Bool.not_true, Bool.false_or]; exact hd _ (hck.dir e he' hb)
      rw [he] at hmem; simp at hmem

include ok horc in
theorem drawOk : DrawOk P orc := by
  intro go hgo ops l a h μ A' w F rd id hpl r ha hF hops hne
  obtain ⟨bef, dt, st⟩ := drawPlan_ok hpl
  have hszN : ∀ (j t : Nat), (ops[j]?).bind (·.dst) = some t → t < A'.tmps.size := fun j t hj => opsOk_at hops j t hj
  refine wpIn_region_any ok.mixed ?_
  have main : ∀ (fuel : Nat) (listed : Array Bool) (A1 : Act) (w1 : World), listed.size = ops.size → unl ops.size listed ≤ fuel →
      (∃ l1 done wm recs a1 h1 μ1 vals, Inv P orc go ops bef dt a μ h w A'.tmps.size (runDraw l P orc go ops [] a h).list (Lst listed) A1 w1 l1 done wm recs a1 h1 μ1 vals) →
      wpAnyIn F 0 P.P .any ops (fun e A'' w'' => e = .normal ∧ StepQ μ h w A' (runDraw l P orc go ops [] a h).list A'' w'') fuel listed A1 w1 := by
    intro fuel
    induction fuel with
    | zero =>
      intro listed A1 w1 hls hu ⟨l1, done, wm, recs, a1, h1, μ1, vals, I⟩
      have hall : ∀ i, i < ops.size → Lst listed i := fun i hi => unl_zero (by omega) hi
      refine ⟨?_, rfl, I.finish st hall⟩
      cases hrd : Region.ready .any ops listed with
      | nil => rfl
      | cons q t =>
        obtain ⟨o, ho, hnl, _⟩ := ready_spec hls (show q ∈ Region.ready .any ops listed by rw [hrd]; simp)
        exact absurd (hall q (Array.getElem?_eq_some_iff.1 ho).1) hnl
    | succ fuel ih =>
      intro listed A1 w1 hls hu ⟨l1, done, wm, recs, a1, h1, μ1, vals, I⟩
      refine ⟨fun hnil => ⟨rfl, I.finish st fun i hi => ?_⟩, fun q hq => ?_⟩
      · by_cases hli : Lst listed i
        · exact hli
        · obtain ⟨p, hp, hpi⟩ := st.cover hi
          exact absurd hnil (ready_some hls l 0 0 st.chk st.plOk (fun i hi => by simp at hi) ⟨p, hp, by rw [hpi]; exact hli⟩)
      · obtain ⟨o, ho, hnl, hdir⟩ := ready_spec hls hq
        have hqn := (Array.getElem?_eq_some_iff.1 ho).1
        have hql : q < listed.size := by omega
        have hu' : unl ops.size (listed.setIfInBounds q true) ≤ fuel := by have := unl_set hql hqn hnl; omega
        have hls' : (listed.setIfInBounds q true).size = ops.size := by simpa using hls
        unfold wpOpIn
        rw [ho]
        simp only
        rcases I.cov q hqn with hd | ⟨p, hp, hpq⟩
        · rcases I.pend q hd with h2 | ⟨r', hr', h2⟩
          · exact absurd h2 hnl
          · subst h2
            have hro := (I.recOk r' hr').pl.o
            rw [ho] at hro; cases hro
            exact I.pendStep (D' := Lst (listed.setIfInBounds r'.p.i true)) ok st r hszN hr' hnl hd hdir (fun i => lst_set hql i) hF _ _ fun A2 w2 μ2 hI => ih _ _ _ hls' hu' ⟨_, _, _, _, _, _, _, _, hI⟩
        · subst hpq
          rcases I.head with h2 | ⟨p', l', h2, hw'⟩
          · subst h2; simp at hp
          · subst h2
            have hpp : p = p' := by
              rcases List.mem_cons.1 hp with h3 | h3
              · exact h3
              · exfalso
                have hck := chkPlan_cons I.chk
                have hb : p.bef.testBit p'.i = true := chkPlan_wr hck.rest p h3 p'.i (by rw [hw']; exact or_two_pow.2 (.inr rfl))
                have hppl := I.plOk p hp
                have hcl : Closed ops.toList fun i => Lst listed i ∨ i = p.i := by
                  intro i o' ho' hi e he hb'
                  rcases hi with hi | rfl
                  · exact .inl (I.cD i o' ho' hi e he hb')
                  · rw [Array.getElem?_toList, ho] at ho'; cases ho'
                    exact .inl (hdir e he hb')
                rw [hppl.bef] at hb
                have hnew := (chkPlan_new I.chk).2
                rw [List.map_cons, List.nodup_cons] at hnew
                rcases st.pred hcl (.inr rfl) hb with h4 | h4
                · have := I.dsub _ h4
                  rw [hck.new] at this; cases this
                · exact hnew.1 (h4 ▸ List.mem_map.2 ⟨p, h3, rfl⟩)
            subst hpp
            have hpo := (I.plOk p (by simp)).o
            rw [ho] at hpo; cases hpo
            exact I.writeStep (D' := Lst (listed.setIfInBounds p.i true)) ok hgo horc st r hszN hw' hnl hdir (fun i => lst_set hql i) hF _ _ fun A2 w2 l2 d2 wm2 rc2 a2 h2 μ2 vs2 hI => ih _ _ _ hls' hu' ⟨_, _, _, _, _, _, _, _, hI⟩
  have hnone : ∀ i, ¬ Lst (Array.replicate ops.size false) i := by
    intro i hi
    simp [Array.getD_eq_getD_getElem?, Array.getElem?_replicate] at hi
  refine main ops.size _ _ _ (by simp) (by unfold unl; exact Nat.le_trans (List.length_filter_le _ _) (by simp)) ?_
  have hpre : Pre P orc go ops bef dt a μ h w A'.tmps.size (runDraw l P orc go ops [] a h).list (Lst (Array.replicate ops.size false)) A' { w with drawn := w.drawn + 1 } l 0 0 [] a h μ (fun _ => .any) := by
    refine ⟨st.plOk, st.chk, hne, fun y hy => hy, Post.drew r, fun i hi => absurd hi (hnone i), fun i hi => by simp at hi, fun j hj => by simp at hj, fun i hi => .inr (st.cover hi), fun i o ho hi => by simp at hi, fun i o ho hi => absurd hi (hnone i),
      fun r hr => by simp at hr, fun r hr => by simp at hr, fun r hr => by simp at hr, fun r hr => by simp at hr, fun t => ?_, rfl, fun t => ?_, ha.df, rfl⟩
    · unfold cur
      cases T.get dt t with
      | none => rfl
      | some i => simp
    · have : cur dt a (fun _ => .any) (Lst (Array.replicate ops.size false)) t = a.tmp t := by
        unfold cur
        cases T.get dt t with
        | none => rfl
        | some i => simp only; rw [if_neg (hnone i)]
      rw [this]; exact tmp_vr ha.tm t
  obtain ⟨l1, d1, wm1, rc1, a1, h1, vs1, hI⟩ := hpre.advance st
  exact ⟨_, _, _, _, _, _, _, _, hI⟩

include ok horc in
/-- THE EXECUTOR IS RIGHT: what it says of a task holds of the machine -/
theorem sound (n : Nat) : GoOk P (run P orc n) := run_ok ok horc (drawOk ok horc) n
end
end Ae
