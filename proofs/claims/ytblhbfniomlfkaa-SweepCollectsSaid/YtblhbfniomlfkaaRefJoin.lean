/- honeycombref12.Join, where the kids are there, of one level, and not too deep. -/
import Derived.Test.YtblhbfniomlfkaaRefLeaf
namespace Go.Proofs.Ytblhbfniomlfkaa
open Go.RowKit

theorem jdx4_0 (a b c d : Int) (W : World) : (Instr.index 33 (.agg #[.int .i64 a, .int .i64 b, .int .i64 c, .int .i64 d]) (.int .i64 0)).run Try.prog W = .ok (.int .i64 a) W := by kernel_rfl
theorem jdx4_1 (a b c d : Int) (W : World) : (Instr.index 33 (.agg #[.int .i64 a, .int .i64 b, .int .i64 c, .int .i64 d]) (.int .i64 1)).run Try.prog W = .ok (.int .i64 b) W := by kernel_rfl
theorem jdx4_2 (a b c d : Int) (W : World) : (Instr.index 33 (.agg #[.int .i64 a, .int .i64 b, .int .i64 c, .int .i64 d]) (.int .i64 2)).run Try.prog W = .ok (.int .i64 c) W := by kernel_rfl
theorem jdx4_3 (a b c d : Int) (W : World) : (Instr.index 33 (.agg #[.int .i64 a, .int .i64 b, .int .i64 c, .int .i64 d]) (.int .i64 3)).run Try.prog W = .ok (.int .i64 d) W := by kernel_rfl
theorem jdx4 (k0 k1 k2 k3 j : Nat) (hj : j < 4) (W : World) : (Instr.index 33 (.agg #[.int .i64 k0, .int .i64 k1, .int .i64 k2, .int .i64 k3]) (.int .i64 (j : Int))).run Try.prog W = .ok (.int .i64 (four k0 k1 k2 k3 j : Nat)) W :=
  match j, hj with
  | 0, _ => jdx4_0 _ _ _ _ W
  | 1, _ => jdx4_1 _ _ _ _ W
  | 2, _ => jdx4_2 _ _ _ _ W
  | 3, _ => jdx4_3 _ _ _ _ W

structure RJ (w : World) (v : Value) (most : Int) (k0 k1 k2 k3 : Nat) (W : World) : Prop where
  b0 : Blk W w.heap.size 29 #[v, .int .i64 most]
  b1 : Blk W (w.heap.size + 1) 33 #[.int .i64 k0, .int .i64 k1, .int .i64 k2, .int .i64 k3]
  b2 : Blk W (w.heap.size + 1 + 1) 29 #[.slice none 0 0, .int .i64 0]
  only : Only (fun _ => False) w W
theorem RJ.drewN {w W : World} {v : Value} {most : Int} {k0 k1 k2 k3 : Nat} (h : RJ w v most k0 k1 k2 k3 W) (n : Nat) : RJ w v most k0 k1 k2 k3 (W.drewN n) := ⟨h.b0, h.b1, h.b2, h.only.drewN n⟩
theorem RJ.drew {w W : World} {v : Value} {most : Int} {k0 k1 k2 k3 : Nat} (h : RJ w v most k0 k1 k2 k3 W) : RJ w v most k0 k1 k2 k3 W.drew := ⟨h.b0, h.b1, h.b2, h.only.drew⟩

set_option maxRecDepth 100000 in
set_option maxHeartbeats 4000000 in
theorem rJoin_any (ns : List Nd) (v : Value) (most : Int) (k0 k1 k2 k3 : Nat) (w : World) (hR : RefAt w v ns) (hm : (ns.length : Int) < most) (hN : ns.length < 1073741824) (hok : ∀ j, kidOk ns k0 (four k0 k1 k2 k3 j)) (hd : lvN ns k0 ≤ 43)
    (hcnt : ∀ i, i < ns.length → cntN ns i ≤ 4611686018427387904) :
    Calls Try.prog 41 #[.agg #[v, .int .i64 most], .agg #[.int .i64 k0, .int .i64 k1, .int .i64 k2, .int .i64 k3]] w (RAddPost ns most (joinKey ns k0 k1 k2 k3) (sumTo ns (four k0 k1 k2 k3) 4) w) := by
  have hk0 : k0 < ns.length := (hok 0).1
  obtain ⟨g, cap, hv, _⟩ := own_form hR (by omega)
  subst hv
  have hadd : ∀ W, RefAt W (.slice (some ⟨g, 0, none⟩) ns.length cap) ns → Calls Try.prog 66 #[.agg #[.slice (some ⟨g, 0, none⟩) ns.length cap, .int .i64 most], .agg #[.int .i64 ((lvN ns k0 : Int) + 1), .int .u32 0, .int .i64 k0, .int .i64 k1, .int .i64 k2, .int .i64 k3, .int .u64 (sumTo ns (four k0 k1 k2 k3) 4)]] W
      (RAddPost ns most (joinKey ns k0 k1 k2 k3) (sumTo ns (four k0 k1 k2 k3) 4) W) := fun W hW =>
    radd_any ns _ most (joinKey ns k0 k1 k2 k3) _ W hW (by omega) hm hN
  have hidx := jdx4 k0 k1 k2 k3
  have HADD := Lib.hid hadd
  have HR := Lib.hid hR
  have HX := Lib.hid hidx
  have HK := Lib.hid hok
  have HC := Lib.hid hcnt
  clear hR hadd hidx hok hcnt
  go_enter Try.func41, Try.ntmps41
  go_wp2
  go_loopw [7, 11] (fun x c wr => ∃ j : Nat, c = .int .i64 j ∧ x = .int .u64 (sumTo ns (four k0 k1 k2 k3) j) ∧ j ≤ 4 ∧ RJ w (.slice (some ⟨g, 0, none⟩) ns.length cap) most k0 k1 k2 k3 wr) (fun _ c _ => 4 - (intOf c).toNat)
  case atStart =>
    exact ⟨0, rfl, rfl, by omega, ((Blk.new _ _ _).alloc _).alloc _, (Blk.at (by simp)).alloc _, Blk.at (by simp), (((Only.refl _ _).alloc _).alloc _).alloc _⟩
  case round =>
    obtain ⟨j, rfl, rfl, hle, hJ⟩ := hrel
    have hR1 := HR.out.keep0 hJ.only
    obtain ⟨g', cp', hv', _, hg, hc0⟩ := hR1.node hk0
    have h := hv'
    simp only [Value.slice.injEq, Option.some.injEq, Addr.mk.injEq] at h
    obtain ⟨⟨rfl, _⟩, _, rfl⟩ := h
    have z0 : wr.cell? ⟨g, k0 * 7, none⟩ = some (.int .i64 (lvN ns k0)) := hc0.c0
    have a0 : wr.cell? ⟨w.heap.size, 0, none⟩ = some (.slice (some ⟨g, 0, none⟩) ns.length cap) := hJ.b0.cell 0
    have a1 : wr.cell? ⟨w.heap.size, 1, none⟩ = some (.int .i64 most) := hJ.b0.cell 1
    have b0 : wr.cell? ⟨w.heap.size + 1, 0, none⟩ = some (.int .i64 k0) := hJ.b1.cell 0
    have i2 : (k0 : Int) < (ns.length : Int) := by omega
    have i4 : (0 : Int) ≤ (k0 : Int) := by omega
    have HJ := Lib.hid hJ
    clear hJ hv' hc0
    by_cases hj : j < 4
    · have hx := HX.out j hj
      obtain ⟨q, hq⟩ : ∃ q, q = four k0 k1 k2 k3 j := ⟨_, rfl⟩
      have hkq := HK.out j
      rw [← hq] at hx hkq
      obtain ⟨g', cp', hv', _, _, hcq⟩ := hR1.node hkq.1
      have h := hv'
      simp only [Value.slice.injEq, Option.some.injEq, Addr.mk.injEq] at h
      obtain ⟨⟨rfl, _⟩, _, rfl⟩ := h
      have q0 : wr.cell? ⟨g, q * 7, none⟩ = some (.int .i64 (lvN ns q)) := hcq.c0
      have q6 : wr.cell? ⟨g, q * 7 + 6, none⟩ = some (.int .u64 (cntN ns q)) := hcq.c6
      rw [hkq.2] at q0
      have hqN := hkq.1
      have i1 : (q : Int) < (ns.length : Int) := by omega
      have i3 : (0 : Int) ≤ (q : Int) := by omega
      have hlo := sumTo_le ns (four k0 k1 k2 k3) j
      have hcl := HC.out q hqN
      have HQ := Lib.hid hq
      have HR1 := Lib.hid hR1
      clear hq hkq hcq hv' hR1
      go_wp2_with fail
      go_quiet (fail)
      go_wp2
      go_roundw
      case rel =>
        go_light
        exact ⟨j + 1, by go_num, by rw [sum_next, HQ.out]; rfl, hj, HJ.out.drewN _⟩
      case measure => simp [intOf]; omega
    · obtain rfl : j = 4 := by omega
      have HR1 := Lib.hid hR1
      clear hR1
      go_wp2_with fail
      have hw : IntKind.i64.wrap ((lvN ns k0 : Int) + 1) = (lvN ns k0 : Int) + 1 := IntWalk.i64_in _ (by omega)
      have b1 : wr.cell? ⟨w.heap.size + 1, 1, none⟩ = some (.int .i64 k1) := HJ.out.b1.cell 1
      have b2 : wr.cell? ⟨w.heap.size + 1, 2, none⟩ = some (.int .i64 k2) := HJ.out.b1.cell 2
      have b3 : wr.cell? ⟨w.heap.size + 1, 3, none⟩ = some (.int .i64 k3) := HJ.out.b1.cell 3
      have hS : wr.drew.cell? ⟨w.heap.size, 0, none⟩ = some (.slice (some ⟨g, 0, none⟩) ns.length cap) ∧ wr.drew.cell? ⟨w.heap.size, 1, none⟩ = some (.int .i64 most) ∧ wr.drew.cell? ⟨w.heap.size + 1, 0, none⟩ = some (.int .i64 k0) ∧ wr.drew.cell? ⟨w.heap.size + 1, 1, none⟩ = some (.int .i64 k1) ∧
          wr.drew.cell? ⟨w.heap.size + 1, 2, none⟩ = some (.int .i64 k2) ∧ wr.drew.cell? ⟨w.heap.size + 1, 3, none⟩ = some (.int .i64 k3) ∧ wr.drew.cell? ⟨g, k0 * 7, none⟩ = some (.int .i64 (lvN ns k0)) := ⟨a0, a1, b0, b1, b2, b3, z0⟩
      have HSS := Lib.hid hS
      clear hS a0 a1 b0 b1 b2 b3 z0
      refine wp_region_plan (fun V => V.cell? ⟨w.heap.size, 0, none⟩ = some (.slice (some ⟨g, 0, none⟩) ns.length cap) ∧ V.cell? ⟨w.heap.size, 1, none⟩ = some (.int .i64 most) ∧ V.cell? ⟨w.heap.size + 1, 0, none⟩ = some (.int .i64 k0) ∧ V.cell? ⟨w.heap.size + 1, 1, none⟩ = some (.int .i64 k1) ∧
          V.cell? ⟨w.heap.size + 1, 2, none⟩ = some (.int .i64 k2) ∧ V.cell? ⟨w.heap.size + 1, 3, none⟩ = some (.int .i64 k3) ∧ V.cell? ⟨g, k0 * 7, none⟩ = some (.int .i64 (lvN ns k0)))
        (.head 0 (.head 1 (.head 2 (.head 3 (.head 4 (.head 5 (.head 6 (.head 7 (.head 8 (.head 9 (.head 10 (.head 11 (.one 12 (.head 13 (.head 14 (.head 15 .stop)))))))))))))))) [16, 17, 18] (by kernel_rfl) (by kernel_rfl) (fun _ _ d _ _ h => by cases d <;> exact h) HSS.out ?_
      iterate 12
        refine stepP_head (v := ?_) rfl rfl ?_ ?_
        rotate_left
        · rintro W' ⟨a0, a1, b0, b1, b2, b3, z0⟩
          go_simp
          try simp only [hw]
          try rfl
        try simp only [Act.put, List.setIfInBounds_toArray, List.set_cons_zero, List.set_cons_succ]
      have hR2 := HR1.out.keep0 (Only.refl (fun _ => False) wr).drew
      have hJ2 := HJ.out.drew
      generalize wr.drew = U at *
      have HR2 := Lib.hid hR2
      have HJ2 := Lib.hid hJ2
      clear hR2 hJ2
      refine stepP_one rfl ?_
      go_wp2_with fail
      refine (HADD.out _ HR2.out).mono ?_
      rintro e W2 ⟨v2, rfl, hR3, hO3⟩
      obtain ⟨a2, cap2, hv2, _⟩ := own_slice hR3
      generalize (findR ns most (joinKey ns k0 k1 k2 k3) (sumTo ns (four k0 k1 k2 k3) 4)).2.2.length = n2 at hv2
      subst hv2
      go_wp2_with fail
      refine ⟨?_, ?_⟩
      · obtain ⟨h1, h2, h3, h4, h5, h6, h7⟩ := HSS.out
        exact ⟨hO3.cell h1 (fun h => h), hO3.cell h2 (fun h => h), hO3.cell h3 (fun h => h), hO3.cell h4 (fun h => h), hO3.cell h5 (fun h => h), hO3.cell h6 (fun h => h), hO3.cell h7 (fun h => h)⟩
      iterate 3
        refine stepP_head (v := ?_) rfl rfl ?_ ?_
        rotate_left
        · intro W' _
          go_simp
          try rfl
        try simp only [Act.put, List.setIfInBounds_toArray, List.set_cons_zero, List.set_cons_succ]
      refine stepP_stop ?_
      simp only [pick, List.getElem?_cons_zero, List.getElem?_cons_succ]
      have hB2 := HJ2.out.b2.only hO3 (fun h => h)
      have hl2 := hB2.lt
      have hO4 := HJ2.out.only.trans hO3 (fun _ _ h => h)
      have y3 : W2.cell? ⟨w.heap.size + 1 + 1, 0, none⟩ = some (.slice none 0 0) := hB2.cell 0
      have y4 : W2.cell? ⟨w.heap.size + 1 + 1, 1, none⟩ = some (.int .i64 0) := hB2.cell 1
      have y5 : W2.frozen? ⟨w.heap.size + 1 + 1, 0, none⟩ = false := hB2.frozen 0
      have y6 : W2.frozen? ⟨w.heap.size + 1 + 1, 1, none⟩ = false := hB2.frozen 1
      have HB2 := Lib.hid hB2
      have HO3 := Lib.hid hO4
      have HR2 := Lib.hid hR3
      clear hB2 hO4 hR3 hO3
      go_wp2
      have B7 : Blk ((W2.setCell ⟨w.heap.size + 1 + 1, 0, none⟩ (.slice a2 n2 cap2)).setCell ⟨w.heap.size + 1 + 1, 1, none⟩ (.int .i64 most)) (w.heap.size + 1 + 1) 29 #[.slice a2 n2 cap2, .int .i64 most] := (HB2.out.set_ 0 _).set_ 1 _
      have O7 := (HO3.out.setCell (p := ⟨w.heap.size + 1 + 1, 0, none⟩) (fun h => by simp only at h; omega) (.slice a2 n2 cap2)).setCell (p := ⟨w.heap.size + 1 + 1, 1, none⟩) (fun h => by simp only at h; omega) (.int .i64 most)
      have R7 := (HR2.out.keep (Only.set1 _ (w.heap.size + 1 + 1) 0 (.slice a2 n2 cap2)) (fun k hk e => own_blk_ne HR2.out HB2.out (by decide) (hk.trans (congrArg some e)))).keep (Only.set1 _ (w.heap.size + 1 + 1) 1 (.int .i64 most)) (fun k hk e => own_blk_ne HR2.out HB2.out (by decide) (hk.trans (congrArg some e)))
      generalize World.setCell (World.setCell W2 _ _) _ _ = Z at B7 O7 R7 ⊢
      have z0 := B7.cell 0
      have z1 := B7.cell 1
      clear B7
      exact bodyPost_ret (v := .tuple #[.agg #[.slice a2 n2 cap2, .int .i64 most], .int .i64 (findR ns most (joinKey ns k0 k1 k2 k3) (sumTo ns (four k0 k1 k2 k3) 4)).1, .int .i64 0]) (by simp [results, go_sem, z0, z1]) rfl ⟨_, rfl, R7, O7⟩
end Go.Proofs.Ytblhbfniomlfkaa
