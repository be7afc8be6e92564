/- find: a node, made if it isn't there. -/
import Derived.Test.YtblhbfniomlfkaaFindP
import Derived.Test.YtblhbfniomlfkaaRegion
namespace Go.Proofs.Ytblhbfniomlfkaa
open Go.RowKit

set_option maxRecDepth 100000 in
set_option maxHeartbeats 4000000 in
theorem find_any (A : Ars) (k : Key) (c : Nat) (w : World) (hA : A.At w) (hI : A.Inv) (hN : A.ns.length < 1073741824) (hk : (k.nd 0).Fit) (hc : c ≤ 4611686018427387904) :
    Calls Try.prog 64 #[.pointer (some ⟨A.p, 0, none⟩), k.val, .int .u64 c] w (FindPost A w k c) := by
  have hsz := hI.size
  have hbig := hI.big
  obtain ⟨g, cap, hv, hcap, hcap'⟩ := own_form hA.ows (by omega)
  unfold maxLen at hcap'
  have hslot := fun W hW => slot_store A k hv W hW (by omega) (by omega) hI.ht hk
  unfold Key.val at hslot ⊢
  have HS := Lib.hid hslot
  have HA := Lib.hid hA
  have HI := Lib.hid hI
  have HV := Lib.hid hv
  have hp := hA.blk.lt
  have hgs : g < w.heap.size := own_lt hA.ows (by rw [hv]; rfl)
  clear hslot hA hI hv
  go_enter Try.func64, Try.ntmps64
  go_wp2_with fail
  refine (HS.out _ (HA.out.alloc _)).mono ?_
  rintro e W ⟨x, d, y, hR, rfl, hO, hx, k1, k2, k3, k4⟩
  have hOw := (((Only.refl (fun _ => False) w).alloc _).trans hO (fun _ _ h => h))
  have hAW := HA.out.keep hOw (fun _ _ h => h)
  rw [HV.out] at k3
  have hxI : (x : Int) < (A.ss.length : Int) := by omega
  have HR := Lib.hid hR
  have hsx := hAW.slotCell HV.out hx
  have hent := HI.out.ht.entry x
  have hxW : g < W.heap.size := Nat.lt_of_lt_of_le hgs hOw.size
  have hB := (Blk.new w 124 k.cells).only hO (fun h => h)
  have HOW := Lib.hid hOw
  have HAW := Lib.hid hAW
  have HB := Lib.hid hB
  clear hR hO hOw hAW hB k1
  obtain ⟨s, hs⟩ : ∃ s, s = A.ss.getD x 0 := ⟨_, rfl⟩
  rw [← hs] at hsx hent
  have Hs := Lib.hid hs
  clear hs
  rcases Nat.eq_zero_or_pos s with rfl | hspos
  · by_cases hmost : A.most ≤ A.ns.length
    · have hl := Len_any A
      have c3 := HAW.out.c3
      go_wp2_with fail
      go_quiet ((go_at_call 12; exact Calls.quiet_of_same ((hl _ (HAW.out.drewN _)).mono fun _ _ h => ⟨h.1, h.2.symm⟩)))
      go_wp2
      go_ret2
      go_light
      exact FindPost.full HA.out HI.out (HOW.out.drewN _) HR.out Hs.out.symm hmost
    · have hl := Len_any A
      have c3 := HAW.out.c3
      have c0 := HAW.out.c0
      have c1 := HAW.out.c1
      have f0 := HAW.out.f 0
      rw [HV.out] at c1
      have HL := Lib.hid hl
      have hpW := HAW.out.blk.lt
      have hlB := HB.out.lt
      obtain ⟨b0, b1, b2, b3, b4, b5⟩ := key_box HB.out
      obtain ⟨i0, hi0, hz0, hz1, hz2⟩ := info_parts node_info
      have HI0 := Lib.hid hi0
      have HZ0 := Lib.hid hz0
      have HZ1 := Lib.hid hz1
      have HZ2 := Lib.hid hz2
      clear hl hi0 hz0 hz1 hz2
      go_wp2_with fail
      go_quiet ((go_at_call 12; exact Calls.quiet_of_same ((HL.out _ (HAW.out.drewN _)).mono fun _ _ h => ⟨h.1, h.2.symm⟩)))
      go_wp2
      have hc2 : ¬ (4611686018427387904 : Int) < (c : Int) := by omega
      have hAV := HAW.out.drewN (nq + 1)
      have hBV := HB.out.drewN (nq + 1)
      have HAV := Lib.hid hAV
      have HBV := Lib.hid hBV
      clear hAV hBV
      refine wp_region_mover (fun w' => w'.cell? ⟨A.p, 0, none⟩ = some A.vn ∧ Blk w' w.heap.size 124 k.cells)
        [0, 1, 2, 3, 4, 5, 6, 7, 8, 9, 10, 11, 12, 13] [14, 15] [16, 17, 18] (by kernel_rfl) (by kernel_rfl) (fun _ _ d _ _ h => by cases d <;> exact h) ⟨c0, HB.out⟩ ?_
      simp only [pick, List.getElem?_cons_zero, List.getElem?_cons_succ]
      iterate 14
        refine headT_cons (v := ?_) rfl ?_ ?_
        rotate_left
        · rintro W' ⟨s0, sB⟩
          obtain ⟨s1, s2, s3, s4, s5, s6⟩ := key_box sB
          clear sB
          go_simp
          try rfl
        try simp only [Act.put, List.setIfInBounds_toArray, List.set_cons_zero, List.set_cons_succ]
      refine headT_nil (moveL_cons ?_)
      go_wp2
      refine ⟨⟨(HAV.out.alloc _).c0, HBV.out.alloc _⟩, moveL_cons ?_⟩
      go_wp2_with (refine wpList_append_lies _ rfl _ _ _ rfl 0 129 i0 _ 7 40 Try.underlying100 HI0.out HZ0.out HZ1.out HZ2.out rfl (by omega) A.vn A.ns.length (ndCells A.ns) rfl (by exact HAW.out.own.alloc _) ⟨W.heap.size, 0, none⟩ 1 1 [.int .i64 k.lv, .int .u32 k.bits, .int .u32 k.k0, .int .u32 k.k1, .int .u32 k.k2, .int .u32 k.k3, .int .u64 c] rfl rfl (World.news_of_block (cs := #[.int .i64 k.lv, .int .u32 k.bits, .int .u32 k.k0, .int .u32 k.k1, .int .u32 k.k2, .int .u32 k.k3, .int .u64 c]) (t := 129) (fr := (0, 0)) (by exact heap_alloc_new W _)) (by simp [Value.oneCell']) (by omega) (by unfold maxLen; omega) (by omega) (by simp) (W.heap.size + 1) (by simp) ?_; intro gg cap2 w1 hown1 hgrow hat hlt; obtain ⟨q0, q1, q2⟩ := (HAV.out.alloc _).appended hgrow)
      have hB1 : Blk w1 w.heap.size 124 k.cells := Blk.grown (HBV.out.alloc _) hgrow (fun h => own_blk_ne HAW.out.own HB.out (by decide) h.symm)
      refine ⟨⟨q0, hB1⟩, moveL_nil ?_⟩
      go_wp2_with fail
      have hM1 := made1 (n := k.nd c) (HOW.out.drewN (nq + 1)) HAV.out ((World.grownBy_alloc _ _ _).trans hgrow) hown1 (hat.imp id (fun h => by have := HOW.out.size; omega))
      clear hown1 hgrow hat hB1 q0 q1 q2 hlB b0 b1 b2 b3 b4 b5 c0 c1 c3 f0 k2 k3 k4 hsx
      generalize World.setCell w1 _ _ = V at hM1 ⊢
      have HM1 := Lib.hid hM1
      clear hM1
      have d1 : V.cell? ⟨A.p, 1, none⟩ = some A.vs := HM1.out.at_.c1
      rw [HV.out] at d1
      have hl1 : ∀ W, (A.made1 (.slice (some ⟨gg, 0, none⟩) (A.ns.length + 1) cap2) (k.nd c)).At W → Calls Try.prog 12 #[.pointer (some ⟨A.p, 0, none⟩)] W fun e w' => e = .returned (.int .i64 ((A.ns.length : Int) + 1)) ∧ W = w' := fun W hW => by
        have h := Len_any _ W hW
        rw [show (A.made1 (.slice (some ⟨gg, 0, none⟩) (A.ns.length + 1) cap2) (k.nd c)).ns.length = A.ns.length + 1 from by simp [Ars.made1, Ars.noded]] at h
        exact h
      have HL1 := Lib.hid hl1
      have hx0 : (0 : Int) ≤ (x : Int) := by omega
      have hcell := HM1.out.at_.slotCell HV.out hx
      have hfz : V.frozen? ⟨g, x, none⟩ = false := by
        have h3 := HM1.out.at_.ows
        change V.ownsRow 0 32 1 A.vs A.ss.length (u32s A.ss) at h3
        rw [HV.out] at h3
        exact h3.frozenAt x
      clear hl1
      refine wp_region_mover (fun w' => w'.cell? ⟨A.p, 1, none⟩ = some (.slice (some ⟨g, 0, none⟩) A.ss.length cap)) [0, 1, 2, 3, 4, 5] [6, 7] [8, 9] (by kernel_rfl) (by kernel_rfl) (fun _ _ d _ _ h => by cases d <;> exact h) d1 ?_
      simp only [pick, List.getElem?_cons_zero, List.getElem?_cons_succ]
      iterate 6
        refine headT_cons (v := ?_) rfl ?_ ?_
        rotate_left
        · intro W' s0
          go_simp
          try rfl
        try simp only [Act.put, List.setIfInBounds_toArray, List.set_cons_zero, List.set_cons_succ]
      refine headT_nil (moveL_cons ?_)
      go_wp2_with (go_at_call 12; refine (HL1.out _ HM1.out.at_.drew).mono ?_; rintro e w' ⟨rfl, rfl⟩)
      refine ⟨d1, moveL_cons ?_⟩
      go_wp2
      refine ⟨d1, moveL_nil ?_⟩
      go_wp2_with fail
      have hM2 := (made2 (x := x) HM1.out HV.out).drew
      change Made A w _ (V.setCell ⟨g, x, none⟩ (.int .u32 ((A.ns.length : Int) + 1))).drew at hM2
      clear hcell hfz
      generalize (World.setCell V _ _).drew = U at hM2 ⊢
      have HM2 := Lib.hid hM2
      have e1 : U.cell? ⟨A.p, 1, none⟩ = some A.vs := HM2.out.at_.c1
      rw [HV.out] at e1
      have hl2 : ∀ W, (A.made2 (.slice (some ⟨gg, 0, none⟩) (A.ns.length + 1) cap2) (k.nd c) x).At W → Calls Try.prog 12 #[.pointer (some ⟨A.p, 0, none⟩)] W fun e w' => e = .returned (.int .i64 ((A.ns.length : Int) + 1)) ∧ W = w' := fun W hW => by
        have h := Len_any _ W hW
        rw [show (A.made2 (.slice (some ⟨gg, 0, none⟩) (A.ns.length + 1) cap2) (k.nd c) x).ns.length = A.ns.length + 1 from by simp [Ars.made2, Ars.made1, Ars.noded, Ars.slotted]] at h
        exact h
      have HL2 := Lib.hid hl2
      clear hl2 hM2 d1 hlt HL1
      refine (HL2.out _ HM2.out.at_).mono ?_
      rintro e w' ⟨rfl, rfl⟩
      have w64 : IntKind.i64.wrap (2 * ((A.ns.length : Int) + 1)) = 2 * ((A.ns.length : Int) + 1) := IntWalk.i64_in _ (by omega)
      by_cases hbigger : A.ss.length < 2 * (A.ns.length + 1)
      · go_wp2_with fail
        go_quiet ((go_at_call 12; exact Calls.quiet_of_same ((HL2.out _ (HM2.out.at_.drewN _)).mono fun _ _ h => ⟨h.1, h.2.symm⟩)))
        go_wp2_with fail
        have hload := HI.out.load
        have hput := HI.out.put (c := c) HR.out Hs.out.symm hk
        have hnl : (A.made2 (.slice (some ⟨gg, 0, none⟩) (A.ns.length + 1) cap2) (k.nd c) x).ns.length = A.ns.length + 1 := by simp [Ars.made2, Ars.made1, Ars.noded, Ars.slotted]
        have hsl : (A.made2 (.slice (some ⟨gg, 0, none⟩) (A.ns.length + 1) cap2) (k.nd c) x).ss.length = A.ss.length := by simp [Ars.made2, Ars.made1, Ars.noded, Ars.slotted]
        have hg := grow_any _ _ (HM2.out.at_.drewN nq) hput.2.2 hput.2.1 (by omega) (by omega) (by omega) (by omega) (by omega)
        rw [hnl, hsl] at hg
        refine hg.mono ?_
        rintro e w' ⟨ss', hG, rfl⟩
        go_wp2
        go_ret2
        go_light
        exact FindPost.made HI.out HR.out Hs.out.symm (by omega) ((HM2.out.drewN nq).grown hG rfl) (grown_inv HI.out hc HR.out Hs.out.symm hk hbigger hG) rfl rfl rfl rfl rfl
      · go_wp2_with fail
        go_quiet ((go_at_call 12; exact Calls.quiet_of_same ((HL2.out _ (HM2.out.at_.drewN _)).mono fun _ _ h => ⟨h.1, h.2.symm⟩)))
        go_wp2
        go_ret2
        go_light
        exact FindPost.made HI.out HR.out Hs.out.symm (by omega) (HM2.out.drewN nq) (made_inv HI.out hc HR.out Hs.out.symm hk (by omega)) rfl rfl rfl rfl rfl
  · obtain ⟨s, rfl⟩ : ∃ t, s = t + 1 := ⟨s - 1, by omega⟩
    go_wp2
    go_ret2
    go_light
    exact FindPost.found HA.out HI.out HOW.out HR.out Hs.out.symm
end Go.Proofs.Ytblhbfniomlfkaa
