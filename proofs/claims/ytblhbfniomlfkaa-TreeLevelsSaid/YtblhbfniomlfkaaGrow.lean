/- grow: twice as many slots. -/
import Derived.Test.YtblhbfniomlfkaaSlot
import Derived.Deep.RegionHeld3
namespace Go.Proofs.Ytblhbfniomlfkaa
open Go.RowKit

/-- The arena with other slots. -/
def Ars.slotted (A : Ars) (v : Value) (ss : List Nat) : Ars := { A with vs := v, ss := ss }

theorem Ars.At.newSlots {A : Ars} {w w1 : World} (h : A.At w) (hg : w.grownBy w1 none) {m : Nat} {ss : List Nat} (hl : ss.length = m) (hown : w1.ownsRow 0 32 1 (.slice (some ⟨w.heap.size, 0, none⟩) m m) m (u32s ss)) :
    (A.slotted (.slice (some ⟨w.heap.size, 0, none⟩) m m) ss).At (w1.setCell ⟨A.p, 1, none⟩ (.slice (some ⟨w.heap.size, 0, none⟩) m m)) := by
  have ho : Only (fun _ => False) w w1 := (Only.refl _ w).grown hg (fun k e => by cases e)
  have h1 := h.keep ho (fun _ _ h => h)
  have hs := Only.set1 w1 A.p 1 (.slice (some ⟨w.heap.size, 0, none⟩) m m)
  refine ⟨?_, own_only h1.own hs ?_, ?_, own_only h1.owe hs ?_, ?_⟩
  · have := h1.blk.set_ 1 (.slice (some ⟨w.heap.size, 0, none⟩) m m)
    simpa [Ars.slotted] using this
  · intro k hk hkp
    exact own_blk_ne h1.own h1.blk (by decide) (hk.trans (congrArg some hkp))
  · subst hl
    refine own_only hown hs ?_
    intro k hk hkp
    have : w.heap.size = k := by simpa [Value.ownBlock, Ars.slotted] using hk
    have := h.blk.lt
    omega
  · intro k hk hkp
    exact own_blk_ne h1.owe h1.blk (by decide) (hk.trans (congrArg some hkp))
  · intro k hk
    have : w.heap.size = k := by simpa [Value.ownBlock, Ars.slotted] using hk
    intro hk'
    have := own_lt h.owe hk'
    omega

theorem Ars.At.putSlot {A : Ars} {w : World} (h : A.At w) {g cap : Nat} (hv : A.vs = .slice (some ⟨g, 0, none⟩) A.ss.length cap) (x v : Nat) :
    (A.slotted A.vs (A.ss.set x v)).At (w.setCell ⟨g, x, none⟩ (.int .u32 v)) := by
  have hs := Only.set1 w g x (.int .u32 v)
  have hgb : A.vs.ownBlock = some g := by rw [hv]; rfl
  refine ⟨?_, own_only h.own hs ?_, ?_, own_only h.owe hs ?_, h.apart⟩
  · exact h.blk.only hs (fun e => own_blk_ne h.ows h.blk (by decide) (hgb.trans (congrArg some e.symm)))
  · rintro k hk rfl
    exact own_own_ne h.own h.ows (by decide) k hk hgb
  · have h2 := h.ows
    rw [hv] at h2
    have h3 := (h2.stored x (.int .u32 v)).1
    have e : (u32s A.ss).set x (.int .u32 v) = u32s (A.ss.set x v) := by simp [u32s, List.map_set]
    rw [e] at h3
    have hl : (A.ss.set x v).length = A.ss.length := List.length_set
    simp only [Ars.slotted, hl, hv]
    exact h3
  · rintro k hk rfl
    exact h.apart k hgb hk

theorem u32_info : (Try.prog.info? 32).map (fun i => (i.zero, i.size, i.bytes)) = some (some (.int .u32 0), 1, 4) := by kernel_rfl

theorem u32s_zeros (n : Nat) : (madeCells (Value.int .u32 0).cells (n * 1)).toList = u32s (List.replicate n 0) := by
  rw [Nat.mul_one]
  show (madeCells #[Value.int .u32 0] n).toList = _
  rw [toList_madeCells_one]
  simp [u32s]

/-- In the middle of grow: j nodes lie in the new table. -/
structure GrowRel (A : Ars) (w : World) (m j : Nat) (ss : List Nat) (wr : World) : Prop where
  len : ss.length = m
  le : j ≤ A.ns.length
  ht : Ht hash ss A.ns j
  at_ : (A.slotted (.slice (some ⟨w.heap.size, 0, none⟩) m m) ss).At wr
  only : Only (fun k => k = A.p) w wr

theorem GrowRel.start {A : Ars} {w w1 : World} {m : Nat} (h : A.At w) (hg : w.grownBy w1 none) (hm : 0 < m) (hown : w1.ownsRow 0 32 1 (.slice (some ⟨w.heap.size, 0, none⟩) m m) m (madeCells (Value.int .u32 0).cells (m * 1)).toList) :
    GrowRel A w m 0 (List.replicate m 0) (w1.setCell ⟨A.p, 1, none⟩ (.slice (some ⟨w.heap.size, 0, none⟩) m m)) := by
  rw [u32s_zeros] at hown
  refine ⟨by simp, Nat.zero_le _, Ht.start _ _ _ hm, h.newSlots hg (by simp) hown, ?_⟩
  exact ((Only.refl (fun k => k = A.p) w).grown hg (fun k e => by cases e)).trans (Only.set1 w1 A.p 1 _) (fun _ _ h => h)

theorem GrowRel.step {A : Ars} {w wr w2 : World} {m j x d : Nat} {ss : List Nat} (h : GrowRel A w m j ss wr) (hj : j < A.ns.length) (hroom : j + 1 < m) (hdis : ∀ i j, i < j → j < A.ns.length → (A.ns.getD i default).key ≠ (A.ns.getD j default).key)
    (ho : Only (fun _ => False) wr w2) (hr : SlotRes (A.slotted (.slice (some ⟨w.heap.size, 0, none⟩) m m) ss) (A.ns.getD j default).key x d) :
    GrowRel A w m (j + 1) (ss.set x (j + 1)) (w2.setCell ⟨w.heap.size, x, none⟩ (.int .u32 (j + 1 : Nat))) := by
  have hl := h.len
  have h0 : ss.getD x 0 = 0 := by
    rcases hr.stop with h0 | hk
    · exact h0
    · have he := h.ht.entry x
      rcases Nat.eq_zero_or_pos (ss.getD x 0) with h0 | hpos
      · exact h0
      · exact absurd hk (hdis _ j (by simp only [Ars.slotted]; omega) hj)
  have hx := hr.here
  have hp := hr.probe
  simp only [Ars.slotted] at hx hp
  have ha := h.at_.keep ho (fun _ _ h => h)
  have hm2 : w.heap.size ≤ wr.heap.size := h.only.size
  refine ⟨by rw [List.length_set]; exact hl, hj, ?_, ?_, ?_⟩
  · rw [hx]
    exact h.ht.put hj (by omega) hp (by rw [← hx]; exact h0)
  · have h3 := ha.putSlot (g := w.heap.size) (cap := m) (by simp [Ars.slotted, hl]) x (j + 1)
    exact h3
  · exact (h.only.trans ho (fun _ _ h => h.elim)).setCell (p := ⟨w.heap.size, x, none⟩) (fun hlt => absurd hlt (Nat.lt_irrefl _)) _

/-- What is asked of each node's numbers. -/
def Nd.Fit (n : Nd) : Prop := n.lv < 1000 ∧ n.bits < 4294967296 ∧ n.k0 < 4294967296 ∧ n.k1 < 4294967296 ∧ n.k2 < 4294967296 ∧ n.k3 < 4294967296

/-- What slot leaves, with all that a store into the slots wants. -/
theorem slot_store (A : Ars) (k : Key) {g cap : Nat} (hv : A.vs = .slice (some ⟨g, 0, none⟩) A.ss.length cap) (w : World) (hA : A.At w) (hN : A.ns.length < 4294967296) (hm : A.ss.length < 1099511627776) {j : Nat} (ht : Ht hash A.ss A.ns j) (hk : (k.nd 0).Fit) :
    Calls Try.prog 74 #[.pointer (some ⟨A.p, 0, none⟩), k.val] w fun e w' => ∃ x d y : Nat, SlotRes A k x d ∧ e = .returned (.int .i64 x) ∧ Only (fun _ => False) w w' ∧ x < A.ss.length ∧
      w'.cell? ⟨g, x, none⟩ = some (.int .u32 y) ∧ w'.frozen? ⟨g, x, none⟩ = false ∧ w'.cell? ⟨A.p, 1, none⟩ = some A.vs ∧ w'.cell? ⟨A.p, 0, none⟩ = some A.vn :=
  (slot_at A k w hA hN hm ht hk).mono fun _ _ ⟨x, d, hr, he, ho⟩ => by
    have h2 := hA.keep ho (fun _ _ h => h)
    refine ⟨x, d, _, hr, he, ho, hr.lt, h2.slotCell hv hr.lt, ?_, h2.c1, h2.c0⟩
    have h3 := h2.ows
    rw [hv] at h3
    exact h3.frozenAt x

set_option maxRecDepth 100000 in
set_option maxHeartbeats 4000000 in
theorem grow_any (A : Ars) (w : World) (hA : A.At w) (hfit : ∀ i, i < A.ns.length → (A.ns.getD i default).Fit) (hdis : ∀ i j, i < j → j < A.ns.length → (A.ns.getD i default).key ≠ (A.ns.getD j default).key)
    (hm0 : 0 < A.ss.length) (hm : A.ss.length < 274877906944) (hN0 : 0 < A.ns.length) (hN : A.ns.length < 2 * A.ss.length) (hN2 : A.ns.length < 4294967295) :
    Calls Try.prog 75 #[.pointer (some ⟨A.p, 0, none⟩)] w fun e w' => ∃ ss, GrowRel A w (2 * A.ss.length) A.ns.length ss w' ∧ e = .returned (.tuple #[]) := by
  obtain ⟨i0, hi, hz0, hz1, hz2⟩ := info_parts u32_info
  have c0 := hA.c0
  have c1 := hA.c1
  have f1 := hA.f 1
  have hp := hA.blk.lt
  obtain ⟨g, cap, hv, hcap, hcap'⟩ := own_form hA.ows hm0
  unfold maxLen at hcap'
  obtain ⟨gn, capn, hvn, hmn, hmn'⟩ := own_form hA.own hN0
  unfold maxLen at hmn'
  rw [hv] at c1
  rw [hvn] at c0
  have HA := Lib.hid hA
  have HV := Lib.hid hv
  have HVN := Lib.hid hvn
  have HI := Lib.hid hi
  have HZ0 := Lib.hid hz0
  have HZ1 := Lib.hid hz1
  have HZ2 := Lib.hid hz2
  have HF := Lib.hid hfit
  have HD := Lib.hid hdis
  clear hA hv hvn hi hz0 hz1 hz2 hfit hdis
  go_enter Try.func75, Try.ntmps75
  go_wp2_with (first | (refine wpList_make_full _ rfl (.tmp 10) (.tmp 10) 22 rfl 0 32 i0 _ 1 Try.underlying22 HI.out HZ0.out HZ1.out .i64 .i64 _ _ (2 * A.ss.length) rfl rfl (by omega) (by omega) (by rw [HZ2.out]; omega) (by unfold maxLen; omega) (Nat.zero_le _) ?_; intro w1 hown1 hg1; have hA1 := HA.out.grown hg1; have e0 := hA1.c0; have e1 := hA1.c1; have g1 := hA1.f 1; rw [HVN.out] at e0; have HA1 := Lib.hid hA1; clear hA1))
  have hG := GrowRel.start HA.out hg1 (by omega) hown1
  go_loopw [19] (fun v wr => ∃ (j : Nat) (ss : List Nat), v = .int .i64 j ∧ GrowRel A w (2 * A.ss.length) j ss wr) (fun v _ => A.ns.length - (intOf v).toNat)
  case atStart => exact ⟨0, _, rfl, hG⟩
  case round =>
    obtain ⟨j, ss, rfl, hG⟩ := hrel
    have hgr : w.heap.size < wr.heap.size := own_lt hG.at_.ows rfl
    have hpr := hG.at_.blk.lt
    by_cases hlt : j < A.ns.length
    · obtain ⟨gn', capn', hvn, hmm, hgn, hcn⟩ := hG.at_.node (i := j) hlt
      obtain ⟨rfl, rfl⟩ : gn = gn' ∧ capn = capn' := by
        have h := HVN.out.symm.trans hvn
        simp only [Value.slice.injEq, Option.some.injEq, Addr.mk.injEq] at h
        exact ⟨h.1.1, h.2.2⟩
      clear hvn hmm
      have hfit := HF.out j hlt
      obtain ⟨n, hn⟩ : ∃ n, n = A.ns.getD j default := ⟨_, rfl⟩
      simp only [Ars.slotted] at hcn
      rw [← hn] at hcn hfit
      have Hn := Lib.hid hn
      clear hn
      have d0 := hcn.c0
      have d1 := hcn.c1
      have d2 := hcn.c2
      have d3 := hcn.c3
      have d4 := hcn.c4
      have d5 := hcn.c5
      have d6 := hcn.c6
      have b1 := hG.at_.c1
      simp only [Ars.slotted] at b1 hpr
      have hl := hG.len
      have HS := fun W hW => slot_store (A.slotted (.slice (some ⟨w.heap.size, 0, none⟩) (2 * A.ss.length) (2 * A.ss.length)) ss) n.key (g := w.heap.size) (cap := 2 * A.ss.length) (by simp only [Ars.slotted, hl]) W hW (by simp only [Ars.slotted]; omega) (by simp only [Ars.slotted]; omega) hG.ht hfit
      unfold Key.val Nd.key at HS
      simp only [Ars.slotted, hl] at HS
      have HS' := Lib.hid HS
      have HG := Lib.hid hG
      have HL := Lib.hid hl
      clear HS hG hcn hl
      have w1 := IntWalk.u32_in (j : Int) (by omega)
      have w2 := IntWalk.u32_in ((j : Int) + 1) (by omega)
      go_wp2
      have n1 : A.p ≠ w.heap.size := by omega
      have n2 : wr.heap.size ≠ w.heap.size := by omega
      have n3 : w.heap.size ≠ A.p := by omega
      have n4 : w.heap.size ≠ wr.heap.size := by omega
      go_region_held3 (fun w' => w'.cell? ⟨A.p, 1, none⟩ = some (.slice (some ⟨w.heap.size, 0, none⟩) (2 * A.ss.length) (2 * A.ss.length)) ∧ w'.cell? ⟨wr.heap.size, 0, none⟩ = some (.int .i64 n.lv) ∧ w'.cell? ⟨wr.heap.size, 1, none⟩ = some (.int .u32 n.bits) ∧ w'.cell? ⟨wr.heap.size, 2, none⟩ = some (.int .u32 n.k0) ∧ w'.cell? ⟨wr.heap.size, 3, none⟩ = some (.int .u32 n.k1) ∧ w'.cell? ⟨wr.heap.size, 4, none⟩ = some (.int .u32 n.k2) ∧ w'.cell? ⟨wr.heap.size, 5, none⟩ = some (.int .u32 n.k3)) (go_keep)
        (first | (go_at_call 74; refine (HS'.out _ ?_).mono ?_; (try exact (HG.out.at_.alloc _).drew); rintro e W ⟨x, d, y, hR, rfl, hO, hx, k1, k2, k3, k4⟩; have hB := (Blk.new wr 129 #[.int .i64 n.lv, .int .u32 n.bits, .int .u32 n.k0, .int .u32 n.k1, .int .u32 n.k2, .int .u32 n.k3, .int .u64 n.cnt]).drew.only hO (fun h => h); have hx0 : (0 : Int) ≤ (x : Int) := (by omega); have hxI : (x : Int) < 2 * (A.ss.length : Int) := (by omega); have q0 := hB.cell 0; have q1 := hB.cell 1; have q2 := hB.cell 2; have q3 := hB.cell 3; have q4 := hB.cell 4; have q5 := hB.cell 5))
      go_wp2
      go_roundw
      case rel =>
        go_light
        refine ⟨j + 1, ss.set x (j + 1), by go_num, ?_⟩
        refine GrowRel.step HG.out hlt (by omega) HD.out ((((Only.refl _ _).alloc _).drew).trans hO (fun _ _ h => h)) (d := d) ?_
        rw [← Hn.out]
        exact hR
      case measure => simp [intOf]; omega
    · go_wp2
      go_end0
      go_light
      obtain rfl : j = A.ns.length := by have := hG.ht.le; omega
      exact ⟨ss, hG, rfl⟩
end Go.Proofs.Ytblhbfniomlfkaa
