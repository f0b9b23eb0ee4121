/- The law ServerRights: its contract. -/
import Derived.Test.YtbjgflfdncikaaaGreatDoorEr
set_option linter.unusedVariables false
set_option linter.unusedSimpArgs false
namespace Go.Proofs
open Go.RowKit

theorem Tryz.wr64 (n : Int) (h1 : 0 ≤ n) (h2 : n < 9223372036854775808) : Ae.wrK .i64 n = n := by
  rw [Ae.wrK_eq]; simp only [IntKind.wrap, IntKind.bits, IntKind.signed]; simp; omega
theorem Tryz.wr8 (n : Int) : Ae.wrK .u8 n = n % 256 := by
  rw [Ae.wrK_eq]; simp only [IntKind.wrap, IntKind.bits, IntKind.signed]; simp
theorem Tryz.shr (n : Int) (k : Nat) (h : 0 ≤ n) (hk : k ≤ 64) : Ae.binV .shr .i64 n (k : Nat) = n / (2 ^ k : Nat) := by
  cases n with
  | negSucc m => omega
  | ofNat m =>
    show (match Ae.sel (Nat.ble k 64) (Ae.frc (Nat.div m (Nat.pow 2 k)) fun r => .val (.int .i64 (.ofNat r))) (Ae.iShr0 .i64 (.ofNat m) (k : Nat)) with | .val (.int _ n) => n | _ => 0) = _
    rw [Nat.ble_eq_true_of_le hk, Ae.sel_true, Ae.frc_eq]
    rfl
theorem Tryz.rt_ev {μ : Ae.Mu} {i : Nat} {n : Int} (hn : Ae.val μ i = n) (h1 : 0 ≤ n) (h2 : n < 4294967296) : (Tryz.rt i).ev μ = n := by
  have s24 : Ae.binV .shr .i64 n 24 = n / 16777216 := Tryz.shr n 24 h1 (by decide)
  have s16 : Ae.binV .shr .i64 n 16 = n / 65536 := Tryz.shr n 16 h1 (by decide)
  have s8 : Ae.binV .shr .i64 n 8 = n / 256 := Tryz.shr n 8 h1 (by decide)
  simp only [Tryz.rt, Ae.E.ev, hn, Ae.binV_add, Ae.binV_mul, Tryz.wr8, s24, s16, s8]
  rw [Tryz.wr64 (n / 16777216 % 256 * 256) (by omega) (by omega), Tryz.wr64 (n / 16777216 % 256 * 256 + n / 65536 % 256) (by omega) (by omega),
    Tryz.wr64 ((n / 16777216 % 256 * 256 + n / 65536 % 256) * 256) (by omega) (by omega), Tryz.wr64 ((n / 16777216 % 256 * 256 + n / 65536 % 256) * 256 + n / 256 % 256) (by omega) (by omega),
    Tryz.wr64 (((n / 16777216 % 256 * 256 + n / 65536 % 256) * 256 + n / 256 % 256) * 256) (by omega) (by omega), Tryz.wr64 (((n / 16777216 % 256 * 256 + n / 65536 % 256) * 256 + n / 256 % 256) * 256 + n % 256) (by omega) (by omega)]
  omega
theorem Tryz.rtF_ok {μ : Ae.Mu} {i : Nat} (hs : ∃ L, μ i = some L) : (Tryz.rtF i).1.ok μ ∧ (Tryz.rtF i).1.ev μ = (Tryz.rtF i).2 := by
  refine ⟨by simp [Tryz.rtF, Tryz.rt, Ae.B.ok, Ae.E.ok, hs], ?_⟩
  simp only [Tryz.rtF, Ae.B.ev, Ae.E.ev]
  by_cases h1 : Ae.val μ i < 0
  · simp [h1]
  · by_cases h2 : Ae.val μ i < 4294967296
    · rw [Tryz.rt_ev rfl (by omega) h2]; simp
    · simp [h2]
theorem Tryz.bnds_ok {μ : Ae.Mu} : ∀ l : List Nat, (∀ i ∈ l, (∃ L, μ i = some L) ∧ 0 ≤ Ae.val μ i ∧ Ae.val μ i ≤ 255) → Ae.PcOk μ (Tryz.bnds l)
  | [], _ => by intro p hp; cases hp
  | i :: l, h => by
    obtain ⟨hs, b0, b1⟩ := h i (List.mem_cons_self ..)
    intro p hp
    simp only [Tryz.bnds, List.mem_cons] at hp
    rcases hp with rfl | rfl | hp
    · refine ⟨⟨hs, trivial⟩, ?_⟩
      simp only [Ae.B.ev, Ae.E.ev]; exact decide_eq_false (by omega)
    · refine ⟨⟨trivial, hs⟩, ?_⟩
      simp only [Ae.B.ev, Ae.E.ev]; exact decide_eq_false (by omega)
    · exact Tryz.bnds_ok l (fun j hj => h j (List.mem_cons_of_mem _ hj)) p hp
theorem Tryz.rv_vr {μ : Ae.Mu} {o g fo fgr fa : Int} {bl : Bool} (hs : ∀ i, i < 6 → ∃ L, μ i = some L) (h0 : Ae.val μ 0 = o) (h1 : Ae.val μ 1 = g) (h2 : Ae.val μ 2 = fo) (h3 : Ae.val μ 3 = fgr) (h4 : Ae.val μ 4 = fa)
    (h5 : Ae.val μ 5 = if bl then 1 else 0) : Ae.VR μ Tryz.rv (.agg #[.int .i64 o, .int .i64 g, .int .i64 fo, .int .i64 fgr, .int .i64 fa, .bool bl]) := by
  simp only [Tryz.rv, Ae.VR]
  refine ⟨_, rfl, ?_⟩
  simp only [Ae.VRs, Ae.VR, Ae.E.ok, Ae.E.ev, Ae.B.ok, Ae.B.ev, h0, h1, h2, h3, h4, h5]
  refine ⟨_, _, rfl, ⟨hs 0 (by decide), rfl⟩, _, _, rfl, ⟨hs 1 (by decide), rfl⟩, _, _, rfl, ⟨hs 2 (by decide), rfl⟩, _, _, rfl, ⟨hs 3 (by decide), rfl⟩, _, _, rfl, ⟨hs 4 (by decide), rfl⟩, _, _, rfl, ⟨⟨hs 5 (by decide), trivial⟩, ?_⟩, rfl⟩
  cases bl <;> rfl
/-- the bytes are not twelve -/
theorem Tryz.law1 (o g fo fgr fa : Int) (bl : Bool) (A : Option Addr) (n c : Nat) (w : World) (h0 : 0 < w.heap.size) (hn : n ≠ 12) :
    Calls Tryz.prog 3 #[.agg #[.int .i64 o, .int .i64 g, .int .i64 fo, .int .i64 fgr, .int .i64 fa, .bool bl], .slice A n c] w fun e w' => e = .returned (.bool true) ∧ Below w.heap.size w w' := by
  let vals : Nat → Int := fun i => match i with | 0 => o | 1 => g | 2 => fo | 3 => fgr | 4 => fa | 5 => if bl then 1 else 0 | _ => n
  have hs : ∀ i, i < 7 → ∃ L, Ae.muS vals 7 i = some L := fun i hi => Ae.muS_some hi
  have hv : ∀ i, i < 7 → Ae.val (Ae.muS vals 7) i = vals i := fun i hi => Ae.val_muS hi
  have hpc : Ae.PcOk (Ae.muS vals 7) [Tryz.rtF 0, Tryz.rtF 1, (.eq (.v 6) (.c 12), false)] := by
    intro p hp
    simp only [List.mem_cons, List.not_mem_nil, or_false] at hp
    rcases hp with rfl | rfl | rfl
    · exact Tryz.rtF_ok (hs 0 (by decide))
    · exact Tryz.rtF_ok (hs 1 (by decide))
    · refine ⟨⟨hs 6 (by decide), trivial⟩, ?_⟩
      simp only [Ae.B.ev, Ae.E.ev, hv 6 (by decide), vals]; exact decide_eq_false (by omega)
  refine Ae.run_true Tryz.tb_ok Tryz.orcL_ok Tryz.run1 (Ae.RR.start h0 vals (by decide) hpc) ?_ ?_
  · simp only [Ae.VRs]
    refine ⟨_, _, rfl, Tryz.rv_vr (fun i hi => hs i (by omega)) (hv 0 (by decide)) (hv 1 (by decide)) (hv 2 (by decide)) (hv 3 (by decide)) (hv 4 (by decide)) (hv 5 (by decide)), _, _, rfl, ?_, rfl⟩
    simp only [Ae.VR, Ae.E.ok, Ae.E.ev, hv 6 (by decide)]
    exact ⟨hs 6 (by decide), A, n, c, rfl, rfl⟩
  · intro b L e
    unfold Tryz.h1
    rw [Ae.get_syms]
    have : b < 7 := by unfold Ae.muS at e; split at e <;> simp_all
    rw [if_pos this]; rfl
/-- the bytes are twelve -/
theorem Tryz.law2 (o g fo fgr fa : Int) (bl : Bool) (a : Addr) (c : Nat) (zs : List Int) (w : World) (hc : 12 ≤ c) (hz : zs.length = c)
    (hcell : ∀ i, i < c → w.cell? (a.add i) = some (.int .u8 (zs.getD i 0))) (hwf : ∀ i, i < 12 → 0 ≤ zs.getD i 0 ∧ zs.getD i 0 ≤ 255) :
    Calls Tryz.prog 3 #[.agg #[.int .i64 o, .int .i64 g, .int .i64 fo, .int .i64 fgr, .int .i64 fa, .bool bl], .slice (some a) 12 c] w fun e w' => e = .returned (.bool true) ∧ Below w.heap.size w w' := by
  obtain ⟨blk, off, spot⟩ := a
  have hsp : spot = none := by
    have := hcell 0 (by omega)
    simp only [World.cell?, Addr.add, if_pos] at this
    cases spot with
    | none => rfl
    | some s => simp at this; split at this <;> simp at this
  subst hsp
  have hcell' : ∀ i, i < c → w.cell? ⟨blk, off + i, none⟩ = some (.int .u8 (zs.getD i 0)) := by
    intro i hi
    have := hcell i hi
    unfold Addr.add at this
    by_cases h : i = 0
    · subst h; simpa using this
    · rw [if_neg h] at this; exact this
  obtain ⟨arr, e, fr, hblk, harr⟩ : ∃ arr e fr, w.heap[blk]? = some (.cells arr e fr) ∧ ∀ i, i < c → arr[off + i]? = some (.int .u8 (zs.getD i 0)) := by
    have := hcell' 0 (by omega)
    cases hb : w.heap[blk]? with
    | none => simp [World.cell?, hb] at this
    | some ob =>
      cases ob with
      | cells arr e fr =>
        refine ⟨arr, e, fr, rfl, fun i hi => ?_⟩
        have := hcell' i hi
        simp only [World.cell?, hb] at this
        simpa using this
      | _ => simp [World.cell?, hb] at this
  have hlt : blk < w.heap.size := (Array.getElem?_eq_some_iff.1 hblk).1
  have hroom : off + c ≤ arr.size := by
    have := (Array.getElem?_eq_some_iff.1 (harr (c - 1) (by omega))).1
    omega
  let vals : Nat → Int := fun i => match i with | 0 => o | 1 => g | 2 => fo | 3 => fgr | 4 => fa | 5 => if bl then 1 else 0 | _ => zs.getD (i - 6) 0
  have hs : ∀ i, i < 18 → ∃ L, Ae.muS vals 18 i = some L := fun i hi => Ae.muS_some hi
  have hv : ∀ i, i < 18 → Ae.val (Ae.muS vals 18) i = vals i := fun i hi => Ae.val_muS hi
  have hbn : Ae.PcOk (Ae.muS vals 18) (Tryz.rtF 0 :: Tryz.rtF 1 :: Tryz.bnds Tryz.ids) := by
    intro p hp
    simp only [List.mem_cons] at hp
    rcases hp with rfl | rfl | hp
    · exact Tryz.rtF_ok (hs 0 (by decide))
    · exact Tryz.rtF_ok (hs 1 (by decide))
    · refine Tryz.bnds_ok Tryz.ids (fun i hi => ?_) p hp
      have h6 : 6 ≤ i ∧ i < 18 := by
        revert i; decide
      refine ⟨hs i h6.2, ?_⟩
      rw [hv i h6.2]
      have : vals i = zs.getD (i - 6) 0 := by
        simp only [vals]
        split <;> first | omega | rfl
      rw [this]; exact hwf (i - 6) (by omega)
  have key : ∀ fs, Ae.PcOk (Ae.muS vals 18) fs → Ae.isTrue (Ae.run Tryz.tb Tryz.orcL 100000 (.call 3 [Tryz.rv, .sl 20 0 12 12 false]) (Tryz.h2 fs)) = true →
      Calls Tryz.prog 3 #[.agg #[.int .i64 o, .int .i64 g, .int .i64 fo, .int .i64 fgr, .int .i64 fa, .bool bl], .slice (some ⟨blk, off, none⟩) 12 c] w fun e w' => e = .returned (.bool true) ∧ Below w.heap.size w w' := by
    intro fs hfs hrun
    have hpc : Ae.PcOk (Ae.muS vals 18) (fs ++ Tryz.rtF 0 :: Tryz.rtF 1 :: Tryz.bnds Tryz.ids) := by
      intro p hp
      rcases List.mem_append.1 hp with h | h
      · exact hfs p h
      · exact hbn p h
    have r0 := Ae.RR.start (hp := w.heap) (n := 21) (by omega) vals (k := 18) (by decide) hpc
    have hno : Ae.muS vals 18 20 = none := by simp [Ae.muS]
    let L : Ae.Loc := ⟨blk, off, arr.size, 1⟩
    have hsub : Ae.Sub (Ae.muS vals 18) (Ae.muNew (Ae.muS vals 18) 20 L) := fun b L' e => by
      have : b ≠ 20 := fun e1 => by subst e1; rw [hno] at e; cases e
      rw [Ae.muNew_other this]; exact e
    have hs' : ∀ i, i < 18 → ∃ L', Ae.muNew (Ae.muS vals 18) 20 L i = some L' := fun i hi => by obtain ⟨L', e⟩ := hs i hi; exact ⟨L', hsub _ _ e⟩
    have hv' : ∀ i, i < 18 → Ae.val (Ae.muNew (Ae.muS vals 18) 20 L) i = vals i := fun i hi => by
      rw [← hv i hi]; unfold Ae.val; rw [Ae.muNew_other (by omega)]
    have hor : Ae.OR (Ae.muNew (Ae.muS vals 18) 20 L) w.heap L (.cells 12 1 Tryz.bs .nilm) := by
      refine ⟨arr, e, fr, hblk, rfl, rfl, by show off + 12 ≤ _; omega, fun i hi => ⟨_, harr i (by omega), ?_⟩, .inr rfl⟩
      have hget : ∀ i, i < 12 → Ae.lget .nilm Tryz.bs i = .sym .u8 (.v (i + 6)) := by
        intro i hi
        rcases i with _ | _ | _ | _ | _ | _ | _ | _ | _ | _ | _ | _ | i <;> first | rfl | omega
      rw [hget i hi]
      simp only [Ae.VR, Ae.E.ok, Ae.E.ev]
      refine ⟨hs' (i + 6) (by omega), ?_⟩
      rw [hv' (i + 6) (by omega)]
      have : vals (i + 6) = zs.getD i 0 := by simp only [vals]; rfl
      rw [this]
    have r := r0.bind (fun b => by rw [Ae.get_syms]; split <;> rfl) (id := 20) (by show 20 < 21; decide) hno (L := L) hlt (o := .cells 12 1 Tryz.bs .nilm) (fun _ _ _ _ => by intro h; cases h) hor (by intro h; cases h)
    refine Ae.run_true Tryz.tb_ok Tryz.orcL_ok hrun r ?_ ?_
    · simp only [Ae.VRs]
      refine ⟨_, _, rfl, Tryz.rv_vr (fun i hi => hs' i (by omega)) (hv' 0 (by decide)) (hv' 1 (by decide)) (hv' 2 (by decide)) (hv' 3 (by decide)) (hv' 4 (by decide)) (hv' 5 (by decide)), _, _, rfl, ?_, rfl⟩
      simp only [Ae.VR]
      exact ⟨L, _, _, Ae.muNew_same _ _ _, rfl, ⟨hc, (by intro h; cases h), hc, rfl, rfl, .inr rfl, fun _ => by show off + 0 + c * 1 ≤ arr.size; omega⟩⟩
    · intro b L' e
      unfold Tryz.h2
      rw [Ae.H.get_put]
      by_cases hb : b = 20
      · rw [if_pos hb]; rfl
      · rw [if_neg hb, Ae.get_syms]
        rw [Ae.muNew_other hb] at e
        have : b < 18 := by unfold Ae.muS at e; split at e <;> simp_all
        rw [if_pos this]; rfl
  have ft : ∀ (k i : Nat) (t : Bool), i < 18 → decide ((k : Int) < vals i) = t → ((Ae.B.lt (.c k) (.v i)).ok (Ae.muS vals 18) ∧ (Ae.B.lt (.c k) (.v i)).ev (Ae.muS vals 18) = t) := by
    intro k i t hi ht
    refine ⟨⟨trivial, hs i hi⟩, ?_⟩
    simp only [Ae.B.ev, Ae.E.ev, hv i hi]; exact ht
  by_cases h1 : (1 : Int) < vals 17
  · refine key Tryz.fB (fun p hp => ?_) Tryz.runB
    simp only [Tryz.fB, List.mem_cons, List.not_mem_nil, or_false] at hp
    subst hp
    exact ft 1 17 true (by decide) (decide_eq_true h1)
  by_cases h2 : (7 : Int) < vals 14
  · refine key Tryz.fC (fun p hp => ?_) Tryz.runC
    simp only [Tryz.fC, List.mem_cons, List.not_mem_nil, or_false] at hp
    rcases hp with rfl | rfl
    · exact ft 1 17 false (by decide) (decide_eq_false h1)
    · exact ft 7 14 true (by decide) (decide_eq_true h2)
  by_cases h3 : (7 : Int) < vals 15
  · refine key Tryz.fD (fun p hp => ?_) Tryz.runD
    simp only [Tryz.fD, List.mem_cons, List.not_mem_nil, or_false] at hp
    rcases hp with rfl | rfl | rfl
    · exact ft 1 17 false (by decide) (decide_eq_false h1)
    · exact ft 7 14 false (by decide) (decide_eq_false h2)
    · exact ft 7 15 true (by decide) (decide_eq_true h3)
  by_cases h4 : (7 : Int) < vals 16
  · refine key Tryz.fE (fun p hp => ?_) Tryz.runE
    simp only [Tryz.fE, List.mem_cons, List.not_mem_nil, or_false] at hp
    rcases hp with rfl | rfl | rfl | rfl
    · exact ft 1 17 false (by decide) (decide_eq_false h1)
    · exact ft 7 14 false (by decide) (decide_eq_false h2)
    · exact ft 7 15 false (by decide) (decide_eq_false h3)
    · exact ft 7 16 true (by decide) (decide_eq_true h4)
  · refine key Tryz.fA (fun p hp => ?_) Tryz.runA
    simp only [Tryz.fA, List.mem_cons, List.not_mem_nil, or_false] at hp
    rcases hp with rfl | rfl | rfl | rfl
    · exact ft 1 17 false (by decide) (decide_eq_false h1)
    · exact ft 7 14 false (by decide) (decide_eq_false h2)
    · exact ft 7 15 false (by decide) (decide_eq_false h3)
    · exact ft 7 16 false (by decide) (decide_eq_false h4)
end Go.Proofs
