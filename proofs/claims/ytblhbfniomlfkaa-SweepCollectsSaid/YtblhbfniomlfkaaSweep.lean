/- honeycomblaw17.SweepCollects: the walk. -/
import Derived.Test.YtblhbfniomlfkaaSweepP
namespace Go.Proofs.Ytblhbfniomlfkaa
open Go.RowKit

theorem empty_u32s (w : World) : (w.alloc (.cells #[] 32)).ownsRow 0 32 1 (.slice (some ⟨w.heap.size, 0, none⟩) 0 0) 0 [] :=
  World.ownsRow_lit w (base := 0) (e := 32) (size := 1) #[] 0 (Nat.zero_le _) (by unfold maxLen; omega) rfl

set_option maxRecDepth 100000 in
set_option maxHeartbeats 4000000 in
theorem Sweep_any (w : World) (ad : Option Addr) (n cap : Nat) (ad4 : Option Addr) (n4 cap4 : Nat) (adw : Option Addr) (nw capw : Nat) (hU : ArgU w ad n) (h4 : Arg4 w ad4 n4) (hWI : ArgI w adw nw) :
    Calls Try.prog 3 #[.slice ad n cap, .slice ad4 n4 cap4, .slice adw nw capw] w fun e w' => e = .returned (.bool true) ∧ Only (fun _ => False) w w' := by
  have haw := awake17_any w
  have hgr := fun W (ho : Only (fun _ => False) w W) => Grown_any W ad n cap ad4 n4 cap4 (hU.keep ho) (h4.keep ho)
  have hnw := hWI.max
  have HAW := Lib.hid haw
  have HGR := Lib.hid hgr
  have HWI := Lib.hid hWI
  clear haw hgr hU h4 hWI
  go_enter Try.func3, Try.ntmps3
  go_wp2_with fail
  refine (HAW.out).mono ?_
  rintro e w1 ⟨rfl, hO1⟩
  have HO1 := Lib.hid hO1
  clear hO1
  go_wp2_with fail
  refine (HGR.out _ HO1.out).mono ?_
  rintro e w2 ⟨A, vx, vat, rfl, hG, hlen⟩
  obtain ⟨gx, cx, hvx, _⟩ := own_form hG.ref hG.wf.pos
  subst hvx
  obtain ⟨ga, ca, hva, _⟩ := own_form hG.row (by simpa using hG.wf.pos)
  rw [List.length_range] at hva
  subst hva
  have hpos := hG.wf.pos
  have HG := Lib.hid hG
  clear hG
  go_wp2_with fail
  obtain ⟨b8, hb8⟩ : ∃ b, b = w2.heap.size := ⟨_, rfl⟩
  have hSL : SL w1 A (.slice (some ⟨gx, 0, none⟩) A.ns.length cx) (.slice (some ⟨ga, 0, none⟩) A.ns.length ca) b8 [] [] (.slice (some ⟨b8 + 1, 0, none⟩) 0 0) (.slice (some ⟨b8 + 1 + 1, 0, none⟩) 0 0)
      (((w2.alloc (.cells #[.slice (some ⟨gx, 0, none⟩) A.ns.length cx, .int .i64 1000] 29)).alloc (.cells #[] 3)).alloc (.cells #[] 32)) := by
    have hO := (((Only.refl (fun _ => False) w2).alloc (.cells #[.slice (some ⟨gx, 0, none⟩) A.ns.length cx, .int .i64 1000] 29)).alloc (.cells #[] 3)).alloc (.cells #[] 32)
    have hs := HG.out.only.size
    subst hb8
    refine ⟨HG.out.keepS hO (fun _ _ h => h) (fun _ _ h => h) (fun _ _ h => h) (fun _ _ h => h), ((Blk.new _ _ _).alloc _).alloc _, ?_, ?_, fun k hk => ⟨fun hf => ?_, fun hf => ?_⟩, fun k hk => ?_, fun k hk => ?_⟩
    · have h := (empty_ints (w2.alloc (.cells #[.slice (some ⟨gx, 0, none⟩) A.ns.length cx, .int .i64 1000] 29))).alloc (.cells #[] 32)
      rw [World.size_alloc] at h
      exact h
    · have h := empty_u32s ((w2.alloc (.cells #[.slice (some ⟨gx, 0, none⟩) A.ns.length cx, .int .i64 1000] 29)).alloc (.cells #[] 3))
      rw [World.size_alloc, World.size_alloc] at h
      exact h
    · have e : w2.heap.size + 1 + 1 = k := by simpa [Value.ownBlock] using hk
      have := HG.out.at_.lt hf
      omega
    · have e : w2.heap.size + 1 + 1 = k := by simpa [Value.ownBlock] using hk
      have := own_lt HG.out.row hf
      omega
    · have e : w2.heap.size + 1 = k := by simpa [Value.ownBlock] using hk
      omega
    · have e : w2.heap.size + 1 + 1 = k := by simpa [Value.ownBlock] using hk
      omega
  have HSL := Lib.hid hSL
  clear hSL
  simp only [← hb8]
  clear hb8
  go_loopw [11, 12, 13] (fun vp vr c wr => ∃ (i : Nat) (pl : List Nat) (gp cp gr cr : Nat), c = .int .i64 i ∧ vp = .slice (some ⟨gp, 0, none⟩) i cp ∧ vr = .slice (some ⟨gr, 0, none⟩) i cr ∧ pl.length = i ∧ i ≤ 8 ∧ (∀ r, r ∈ pl → r < A.ns.length) ∧
    SL w1 A (.slice (some ⟨gx, 0, none⟩) A.ns.length cx) (.slice (some ⟨ga, 0, none⟩) A.ns.length ca) b8 pl pl (.slice (some ⟨gp, 0, none⟩) i cp) (.slice (some ⟨gr, 0, none⟩) i cr) wr) (fun _ _ c _ => 8 - (intOf c).toNat)
  case atStart => exact ⟨0, [], _, _, _, _, rfl, rfl, rfl, rfl, by omega, fun r hr => by simp at hr, HSL.out⟩
  case round =>
    obtain ⟨i, pl, gp, cp, gr, cr, rfl, rfl, rfl, hpl, hi8, hlt, hSL⟩ := hrel
    have HPL := Lib.hid hpl
    have HLT := Lib.hid hlt
    have HS := Lib.hid hSL
    clear hpl hlt hSL
    have hx : (i < nw ∧ i < 8) ∨ (¬ i < nw) ∨ (i < nw ∧ ¬ i < 8) := by omega
    rcases hx with ⟨hin, h8⟩ | hin | ⟨hin, h8⟩
    · obtain ⟨b, off, z, hz, hzz, hcz⟩ := HWI.out.cell i hin
      subst hz
      have hbl : b < w.heap.size := World.block_lt_of_cell? w _ hcz
      have d0 := HS.out.gr.only.cell (HO1.out.cell hcz (fun h => h)) (fun h => h)
      have c0 : wr.cell? ⟨b8, 0, none⟩ = some (.slice (some ⟨gx, 0, none⟩) A.ns.length cx) := HS.out.box.cell 0
      obtain ⟨m0, hm0, hm0l⟩ := and16 z
      have hmr : (m0 : Int) % (A.ns.length : Int) = ((m0 % A.ns.length : Nat) : Int) := by omega
      have hml : m0 % A.ns.length < A.ns.length := Nat.mod_lt _ (by omega)
      obtain ⟨m, hm⟩ : ∃ m, m = m0 % A.ns.length := ⟨_, rfl⟩
      rw [← hm] at hmr hml
      clear hm hcz
      unfold In64 at hzz
      obtain ⟨g', cp', hv', _, _, hcm⟩ := HS.out.gr.ref.node hml
      have h := hv'
      simp only [Value.slice.injEq, Option.some.injEq, Addr.mk.injEq] at h
      obtain ⟨⟨rfl, _⟩, _, rfl⟩ := h
      have n1 : wr.cell? ⟨gx, m * 7, none⟩ = some (.int .i64 (lvN A.ns m)) := hcm.c0
      have i1 : (m : Int) < (A.ns.length : Int) := by omega
      clear hcm hv'
      go_upto_if 63 with (fail)
      go_cut [14] (fun s14 wx => ∃ y : Nat, s14 = .int .i64 y ∧ y < A.ns.length ∧ wr = wx)
      case first =>
        go_wp2_with fail
        · go_meet
          exact ⟨0, rfl, hpos, rfl⟩
        · go_meet
          exact ⟨m, by rw [hmr], hml, rfl⟩
      case rest =>
        obtain ⟨y, rfl, hy, rfl⟩ := hcut
        clear n1 d0 hmr i1 hm0 hm0l hml
        go_upto_region 13 with fail
        have hS0 : wr.drew.cell? ⟨ga, y, none⟩ = some (.int .u32 y) := range_cell (HS.out.keep0 ((Only.refl _ wr).drew)).gr.row hy
        have hSd := HS.out.keep0 ((Only.refl _ wr).drew)
        refine wp_region_plan (fun W => W.cell? ⟨ga, y, none⟩ = some (.int .u32 y)) (.head 0 (.head 1 (.head 4 (.head 5 (.head 6 (.head 7 (.head 8 (.two 2 (.two 3 (.one 9 (.one 10 (.one 11 (.one 12 .stop)))) 9 (.one 3 (.one 10 (.one 11 (.one 12 .stop))))) 9 (.one 2 (.one 3 (.one 10 (.one 11 (.one 12 .stop))))))))))))) [] (by kernel_rfl) (by kernel_rfl) (fun _ _ d _ _ h => by cases d <;> exact h) hS0 ?_
        iterate 7
          refine stepP_head (v := ?_) rfl rfl ?_ ?_
          rotate_left
          · rintro W' h0
            go_simp
            try rfl
          try simp only [Act.put, List.setIfInBounds_toArray, List.set_cons_zero, List.set_cons_succ]
        generalize wr.drew = U at *
        have HU1 := Lib.hid hSd
        clear hSd hS0
        refine stepP_two rfl rfl ?a1 ?a2
        case' a1 =>
          go_wp2_with fail
          refine ⟨range_cell (HU1.out.alloc _).gr.row hy, ?_⟩
          refine stepP_two rfl rfl ?a11 ?a12
          case' a11 =>
            go_wp2_with (first | (at_builtin; refine wp_push _ rfl _ _ 24 rfl 3 .i64 8 int_info (by omega) Try.underlying24 0 (.slice (some ⟨gp, 0, none⟩) i cp) pl rfl (HU1.out.alloc _).pls (by rw [HPL.out]; omega) (Nat.zero_le _) U.heap.size y rfl (Blk.new _ _ _) ?_; intro g4 c4 W4 hr4 hg4 hat4 _) | fail)
            have h4 := (HU1.out.alloc _).pushP hg4 hr4 hat4
            have H4 := Lib.hid h4
            clear h4 hr4 hg4 hat4
            refine ⟨range_cell H4.out.gr.row hy, stepP_one rfl ?_⟩
            go_wp2_with fail
            refine ⟨range_cell (H4.out.alloc _).gr.row hy, stepP_one rfl ?_⟩
            go_wp2_with (first | (at_builtin; refine wp_push _ rfl _ _ 22 rfl 32 .u32 4 u32_info (by omega) Try.underlying22 0 (.slice (some ⟨gr, 0, none⟩) i cr) pl rfl (H4.out.alloc _).rts (by rw [HPL.out]; omega) (Nat.zero_le _) W4.heap.size y rfl (Blk.new _ _ _) ?_; intro g6 c6 W6 hr6 hg6 hat6 _) | fail)
            have h6 := (H4.out.alloc _).pushR hg6 hr6 hat6
            have H6 := Lib.hid h6
            clear h6 hr6 hg6 hat6
            refine ⟨range_cell H6.out.gr.row hy, stepP_one rfl ?_⟩
            go_wp2_with fail
            refine ⟨range_cell H6.out.gr.row hy, stepP_one rfl ?_⟩
            go_wp2_with fail
            refine ⟨range_cell H6.out.gr.row hy, stepP_stop ?_⟩
            simp only [pick]
          case' a12 =>
            go_wp2_with fail
            refine ⟨range_cell ((HU1.out.alloc _).alloc _).gr.row hy, stepP_one rfl ?_⟩
            go_wp2_with (first | (at_builtin; refine wp_push _ rfl _ _ 24 rfl 3 .i64 8 int_info (by omega) Try.underlying24 0 (.slice (some ⟨gp, 0, none⟩) i cp) pl rfl ((HU1.out.alloc _).alloc _).pls (by rw [HPL.out]; omega) (Nat.zero_le _) U.heap.size y rfl ((Blk.new _ _ _).alloc _) ?_; intro g4 c4 W4 hr4 hg4 hat4 _) | fail)
            have hb4 : Blk W4 (U.heap.size + 1) 32 #[.int .u32 y] := (Blk.at (by simp) : Blk ((U.alloc (.cells #[.int .i64 y] 3)).alloc (.cells #[.int .u32 y] 32)) (U.heap.size + 1) 32 #[.int .u32 y]).grown hg4 (fun e => by have := own_lt HU1.out.pls e.symm; omega)
            have HB4 := Lib.hid hb4
            have h4 := ((HU1.out.alloc _).alloc _).pushP hg4 hr4 hat4
            have H4 := Lib.hid h4
            clear h4 hr4 hg4 hat4 hb4
            refine ⟨range_cell H4.out.gr.row hy, stepP_one rfl ?_⟩
            go_wp2_with (first | (at_builtin; refine wp_push _ rfl _ _ 22 rfl 32 .u32 4 u32_info (by omega) Try.underlying22 0 (.slice (some ⟨gr, 0, none⟩) i cr) pl rfl H4.out.rts (by rw [HPL.out]; omega) (Nat.zero_le _) (U.heap.size + 1) y rfl HB4.out ?_; intro g6 c6 W6 hr6 hg6 hat6 _) | fail)
            have h6 := H4.out.pushR hg6 hr6 hat6
            have H6 := Lib.hid h6
            clear h6 hr6 hg6 hat6
            refine ⟨range_cell H6.out.gr.row hy, stepP_one rfl ?_⟩
            go_wp2_with fail
            refine ⟨range_cell H6.out.gr.row hy, stepP_one rfl ?_⟩
            go_wp2_with fail
            refine ⟨range_cell H6.out.gr.row hy, stepP_stop ?_⟩
            simp only [pick]
        case' a2 =>
          go_wp2_with fail
          refine ⟨range_cell (HU1.out.alloc _).gr.row hy, stepP_one rfl ?_⟩
          go_wp2_with fail
          refine ⟨range_cell ((HU1.out.alloc _).alloc _).gr.row hy, stepP_one rfl ?_⟩
          go_wp2_with (first | (at_builtin; refine wp_push _ rfl _ _ 24 rfl 3 .i64 8 int_info (by omega) Try.underlying24 0 (.slice (some ⟨gp, 0, none⟩) i cp) pl rfl ((HU1.out.alloc _).alloc _).pls (by rw [HPL.out]; omega) (Nat.zero_le _) (U.heap.size + 1) y rfl (Blk.at (by simp)) ?_; intro g4 c4 W4 hr4 hg4 hat4 _) | fail)
          have hb4 : Blk W4 U.heap.size 32 #[.int .u32 y] := ((Blk.new U 32 #[.int .u32 y]).alloc (.cells #[.int .i64 y] 3)).grown hg4 (fun e => by have := own_lt HU1.out.pls e.symm; omega)
          have HB4 := Lib.hid hb4
          have h4 := ((HU1.out.alloc _).alloc _).pushP hg4 hr4 hat4
          have H4 := Lib.hid h4
          clear h4 hr4 hg4 hat4 hb4
          refine ⟨range_cell H4.out.gr.row hy, stepP_one rfl ?_⟩
          go_wp2_with (first | (at_builtin; refine wp_push _ rfl _ _ 22 rfl 32 .u32 4 u32_info (by omega) Try.underlying22 0 (.slice (some ⟨gr, 0, none⟩) i cr) pl rfl H4.out.rts (by rw [HPL.out]; omega) (Nat.zero_le _) U.heap.size y rfl HB4.out ?_; intro g6 c6 W6 hr6 hg6 hat6 _) | fail)
          have h6 := H4.out.pushR hg6 hr6 hat6
          have H6 := Lib.hid h6
          clear h6 hr6 hg6 hat6
          refine ⟨range_cell H6.out.gr.row hy, stepP_one rfl ?_⟩
          go_wp2_with fail
          refine ⟨range_cell H6.out.gr.row hy, stepP_one rfl ?_⟩
          go_wp2_with fail
          refine ⟨range_cell H6.out.gr.row hy, stepP_stop ?_⟩
          simp only [pick]
        all_goals
          go_wp2_with fail
          go_roundw
          case rel =>
            have h6 := H6.out
            rw [HPL.out] at h6
            rw [HPL.out]
            exact ⟨i + 1, pl ++ [y], _, _, _, _, by go_num, rfl, rfl, by rw [List.length_append, HPL.out]; rfl, h8, fun r hr => by
              rcases List.mem_append.1 hr with h | h
              · exact HLT.out r h
              · simp only [List.mem_singleton] at h; subst h; exact hy, h6⟩
          case measure => simp [intOf]; omega
    all_goals
      have hWf := HS.out.gr.wf
      have hI := HS.out.gr.inv
      have hmo := HS.out.gr.most
      have hrr := rReach_any A.ns hWf (.slice (some ⟨gx, 0, none⟩) A.ns.length cx) 1000 pl 0 gp cp wr HS.out.gr.ref (by omega) HLT.out (by rw [HPL.out]; omega) (by have h := HS.out.pls; rw [← HPL.out] at h; exact h)
      rw [HPL.out] at hrr
      have hre := fun W (ho : Only (fun _ => False) wr W) => Reach_any A hWf (by omega) 0 (.slice (some ⟨gr, 0, none⟩) i cr) pl HLT.out W (HS.out.keep0 ho).gr.at_ (HS.out.keep0 ho).rts
      have hco := fun W (ho : Only (fun _ => False) wr W) => Collect_any A hWf hI (by omega) 0 (.slice (some ⟨gr, 0, none⟩) i cr) pl HLT.out (by rw [HPL.out]; omega) W (HS.out.keep0 ho).gr.at_ (by rw [hmo]; omega) (by rw [hmo]; omega) (by rw [hmo]; omega) (HS.out.keep0 ho).rts
      have HRR := Lib.hid hrr
      have HRE := Lib.hid hre
      have HCO := Lib.hid hco
      have HWf := Lib.hid hWf
      have HI := Lib.hid hI
      have HMO := Lib.hid hmo
      have c0 : wr.cell? ⟨b8, 0, none⟩ = some (.slice (some ⟨gx, 0, none⟩) A.ns.length cx) := HS.out.box.cell 0
      have c1 : wr.cell? ⟨b8, 1, none⟩ = some (.int .i64 1000) := HS.out.box.cell 1
      clear hrr hre hco hWf hI hmo
      go_wp2_with fail
      refine (HRR.out).mono ?_
      rintro e w3 ⟨S, rfl, hSn, hO3⟩
      have HSN := Lib.hid hSn
      have HO3 := Lib.hid hO3
      clear hSn hO3 c0 c1
      go_wp2_with fail
      refine (HRE.out _ HO3.out).mono ?_
      rintro e w4 ⟨S2, he, hS2, hO4⟩
      rw [hS2.count HSN.out.ok.1 (fun k => HSN.out.iff k)] at he
      subst he
      have hO4' := HO3.out.trans hO4 (fun _ _ h => h)
      have HO4 := Lib.hid hO4'
      clear hO4 hS2 hO4'
      go_wp2_with fail
      refine (HCO.out _ HO4.out).mono ?_
      rintro e w5 ⟨B, M, vl, l, rfl, hC⟩
      obtain ⟨av, cv, hvl, _⟩ := own_slice hC.out.row
      rw [hC.len, HPL.out] at hvl
      subst hvl
      have hO5 := HO4.out.trans hC.only (fun _ _ h => h)
      have hBlen := hC.length HWf.out HI.out HSN.out
      have hBsmall := hC.ok.length
      have HO5 := Lib.hid hO5
      have HC := Lib.hid hC
      have HS5 := Lib.hid (HS.out.keep0 hO5)
      have HBL := Lib.hid hBlen
      clear hO5 hC hBlen
      have c0 : w5.cell? ⟨b8, 0, none⟩ = some (.slice (some ⟨gx, 0, none⟩) A.ns.length cx) := HS5.out.box.cell 0
      have hla := fun W (hW : A.At W) => Len_any A W hW
      have hm : ∀ W q, (q = A.p ∨ q = B.p) ∧ A.At W ∧ B.At W → Calls Try.prog 13 #[.pointer (some ⟨q, 0, none⟩)] W fun e w' => e = .returned (.int .i64 1000) ∧ W = w' := fun W q ⟨hq, hA, hB⟩ => by
        rcases hq with rfl | rfl
        · have h := Most_any A W hA
          rw [HMO.out] at h
          exact h
        · have h := Most_any B W hB
          rw [HC.out.most, HMO.out] at h
          exact h
      have HLA := Lib.hid hla
      have HM := Lib.hid hm
      clear hla hm
      go_wp2_with fail
      go_quiet ((first
        | (go_at_call 12; exact Calls.quiet_of_same ((HLA.out _ (HS5.out.gr.at_.drewN _)).mono fun _ _ h => ⟨h.1, h.2.symm⟩))
        | (go_at_call 13; exact Calls.quiet_of_same ((HM.out _ _ ⟨by first | exact Or.inl rfl | exact Or.inr rfl, HS5.out.gr.at_.drewN _, HC.out.at_.drewN _⟩).mono fun _ _ h => ⟨h.1, h.2.symm⟩))))
      go_upto_if 132 with (fail)
      go_cut [15] (fun s15 wx => s15 = .int .i64 B.ns.length ∧ Only (fun _ => False) w5 wx)
      case first =>
        have hsl : S.length ≤ 1000 := by rw [HBL.out] at hBsmall; omega
        go_wp2_with fail
        · go_meet
          rename_i hh
          have h0 : 0 ∉ S := by simpa using hh
          exact ⟨by rw [HBL.out, if_neg h0]; rfl, (Only.refl _ w5).drewN _⟩
        · go_meet
          rename_i hh
          have h0 : 0 ∈ S := by simpa using hh
          exact ⟨by rw [HBL.out, if_pos h0]; rfl, (Only.refl _ w5).drewN _⟩
      case rest =>
        obtain ⟨rfl, hOc⟩ := hcut
        have HOC := Lib.hid hOc
        have hal := alike_any A B M HWf.out HC.out.ok (by omega) (by omega)
        have HAL := Lib.hid hal
        clear hOc hal c0
        go_wp2_with fail
        go_loopw [137] (fun c wr => ∃ j : Nat, c = .int .i64 j ∧ j ≤ i ∧ Only (fun _ => False) w5 wr) (fun c _ => i - (intOf c).toNat)
        case atStart => exact ⟨0, rfl, by omega, HOC.out⟩
        case round =>
          obtain ⟨j, rfl, hji, hOr⟩ := hrel
          have hA := HS5.out.gr.at_.keep hOr (fun _ _ h => h)
          have hB := HC.out.at_.keep hOr (fun _ _ h => h)
          have HA := Lib.hid hA
          have HB := Lib.hid hB
          have HOR := Lib.hid hOr
          clear hA hB hOr
          obtain ⟨wo, hwo⟩ : ∃ wo : World, wo = wr := ⟨_, rfl⟩
          rw [← hwo] at HA HB HOR ⊢
          clear hwo
          by_cases hj : j < i
          · have hrts := own_only HS5.out.rts HOR.out (fun _ _ h => h)
            have hrow := own_only HC.out.out.row HOR.out (fun _ _ h => h)
            obtain ⟨gl, cl, hvl, _⟩ := own_form hrow (by rw [HC.out.len, HPL.out]; omega)
            rw [HC.out.len, HPL.out] at hvl
            simp only [Value.slice.injEq, true_and] at hvl
            obtain ⟨rfl, rfl⟩ := hvl
            have r0 := nums_cell hrts HPL.out.symm (i := j) (by rw [HPL.out]; omega)
            have l0 := nums_cell hrow (by rw [HC.out.len, HPL.out]) (i := j) (by rw [HC.out.len, HPL.out]; omega)
            have hp := HC.out.pair j (by rw [HPL.out]; omega)
            have hsm := fun k (hk : k < i) => HC.out.same HWf.out HI.out (i := k) (j := j) (by rw [HPL.out]; omega) (by rw [HPL.out]; omega)
            obtain ⟨x, hx⟩ : ∃ x, x = pl.getD j 0 := ⟨_, rfl⟩
            obtain ⟨y, hy⟩ : ∃ y, y = l.getD j 0 := ⟨_, rfl⟩
            rw [← hx] at r0 hp
            rw [← hy] at l0 hp
            simp only [← hx, ← hy] at hsm
            have HP := Lib.hid hp
            have HSM := Lib.hid hsm
            have HX := Lib.hid hx
            have HY := Lib.hid hy
            clear hp hsm hx hy hrts hrow
            go_wp2_with fail
            refine (HAL.out x y HP.out _ HA.out HB.out).mono ?_
            rintro e wq ⟨rfl, hOq⟩
            have HOQ := Lib.hid (HOR.out.trans hOq (fun _ _ h => h))
            clear hOq r0 l0
            go_wp2_with fail
            go_loopw [152] (fun c wi => ∃ k : Nat, c = .int .i64 k ∧ k ≤ j ∧ Only (fun _ => False) w5 wi) (fun c _ => j - (intOf c).toNat)
            case atStart => exact ⟨0, rfl, by omega, HOQ.out⟩
            case round =>
              obtain ⟨k, rfl, hkj, hOi⟩ := hrel
              by_cases hk : k < j
              · have hrts := own_only HS5.out.rts hOi (fun _ _ h => h)
                have hrow := own_only HC.out.out.row hOi (fun _ _ h => h)
                have r0 := nums_cell hrts HPL.out.symm (i := j) (by rw [HPL.out]; omega)
                have l0 := nums_cell hrow (by rw [HC.out.len, HPL.out]) (i := j) (by rw [HC.out.len, HPL.out]; omega)
                have r1 := nums_cell hrts HPL.out.symm (i := k) (by rw [HPL.out]; omega)
                have l1 := nums_cell hrow (by rw [HC.out.len, HPL.out]) (i := k) (by rw [HC.out.len, HPL.out]; omega)
                have hsk := HSM.out k (by omega)
                rw [← HX.out] at r0
                rw [← HY.out] at l0
                obtain ⟨x', hx'⟩ : ∃ x', x' = pl.getD k 0 := ⟨_, rfl⟩
                obtain ⟨y', hy'⟩ : ∃ y', y' = l.getD k 0 := ⟨_, rfl⟩
                rw [← hx'] at r1 hsk
                rw [← hy'] at l1 hsk
                have i1 : (k : Int) < (i : Int) := by omega
                have i2 : (j : Int) < (i : Int) := by omega
                have HOI := Lib.hid hOi
                clear hx' hy' hrts hrow hOi
                by_cases hE : x' = x
                · have e1 : ((x' : Int) == (x : Int)) = true := by simp [hE]
                  have e2 : ((y' : Int) == (y : Int)) = true := by simp [hsk.1 hE]
                  have HE := Lib.hid hE
                  clear hsk hE
                  go_wp2_with fail
                  go_quiet (fail)
                  go_wp2_with fail
                  go_roundw
                  case rel => exact ⟨k + 1, by go_num, by omega, HOI.out.drewN _⟩
                  case measure => simp [intOf]; omega
                · have e1 : ((x' : Int) == (x : Int)) = false := by simp; omega
                  have hne : y' ≠ y := fun h => hE (hsk.2 h)
                  have e2 : ((y' : Int) == (y : Int)) = false := by simp; omega
                  clear hsk hE hne
                  go_wp2_with fail
                  go_quiet (fail)
                  go_wp2_with fail
                  go_roundw
                  case rel => exact ⟨k + 1, by go_num, by omega, HOI.out.drewN _⟩
                  case measure => simp [intOf]; omega
              · have HOI := Lib.hid hOi
                clear hOi
                go_wp2_with fail
                go_roundw
                case rel => exact ⟨j + 1, by go_num, by omega, HOI.out⟩
                case measure => simp [intOf]; omega
          · have hlb := Len_any B wo HB.out
            have HLB := Lib.hid hlb
            clear hlb
            go_wp2_with fail
            refine (HLB.out).mono ?_
            rintro e w' ⟨rfl, rfl⟩
            go_wp2_with fail
            go_ret
            exact ⟨rfl, (HO1.out.trans (HS.out.gr.only.trans HO5.out (fun _ _ h => h)) (fun _ _ h => h)).trans HOR.out (fun _ _ h => h)⟩
end Go.Proofs.Ytblhbfniomlfkaa
