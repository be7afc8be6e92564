/- honeycomblaw17.Grown. -/
import Derived.Test.YtblhbfniomlfkaaGrownP
namespace Go.Proofs.Ytblhbfniomlfkaa
open Go.RowKit

def GrownPost (w : World) (e : Ending) (w' : World) : Prop :=
  ∃ (A : Ars) (vx vat : Value), e = .returned (.tuple #[.pointer (some ⟨A.p, 0, none⟩), .agg #[vx, .int .i64 1000], vat, .bool true]) ∧ Gr w A vx vat w' ∧ A.ns.length ≤ 31

set_option maxRecDepth 100000 in
set_option maxHeartbeats 4000000 in
theorem Grown_any (w : World) (ad : Option Addr) (n cap : Nat) (ad4 : Option Addr) (n4 cap4 : Nat) (hU : ArgU w ad n) (h4 : Arg4 w ad4 n4) :
    Calls Try.prog 8 #[.slice ad n cap, .slice ad4 n4 cap4] w (GrownPost w) := by
  have hnew := fun W => New_big 1000 W (by omega) (by omega)
  have hrn := fun W => rNew_any 1000 W (by omega)
  have HNEW := Lib.hid hnew
  have HRN := Lib.hid hrn
  have HU := Lib.hid hU
  have H4 := Lib.hid h4
  have hn := hU.max
  have hn4 := h4.max
  clear hnew hrn hU h4
  go_enter Try.func8, Try.ntmps8
  go_wp2_with fail
  refine (HNEW.out _).mono ?_
  rintro e w1 ⟨A, hN, rfl⟩
  have hB1 := (Blk.new w 29 #[.slice none 0 0, .int .i64 0]).only hN.only (fun h => h)
  have hO1 := ((Only.refl (fun _ => False) w).alloc (.cells #[.slice none 0 0, .int .i64 0] 29)).trans hN.only (fun _ _ h => h)
  have hf1 : ∀ k, A.foot k → w.heap.size < k := fun k hk => by have := hN.foot k hk; rw [World.size_alloc] at this; omega
  have HN := Lib.hid hN
  clear hN
  go_wp2_with fail
  refine (HRN.out _).mono ?_
  rintro e w2 ⟨vx, rfl, hX, hO2, hxb⟩
  obtain ⟨gx, cx, hvx, _⟩ := own_form hX (by simp)
  have hvx' : vx = .slice (some ⟨gx, 0, none⟩) 1 cx := hvx
  subst hvx'
  have hA2 := HN.out.at_.keep hO2 (fun _ _ h => h)
  have hB2 := hB1.only hO2 (fun h => h)
  have hO2' := hO1.trans hO2 (fun _ _ h => h)
  have hl2 := hB2.lt
  have HA2 := Lib.hid hA2
  have HB2 := Lib.hid hB2
  have HO2 := Lib.hid hO2'
  have HX := Lib.hid hX
  clear hA2 hB2 hO2' hX hB1 hO1 hO2 hvx
  go_wp2_with fail
  have hGL : GL w A (.slice (some ⟨gx, 0, none⟩) 1 cx) (.slice (some ⟨w2.heap.size + 1, 0, none⟩) 1 1) w2.heap.size ((w2.alloc (.cells #[.slice (some ⟨gx, 0, none⟩) 1 cx, .int .i64 1000] 29)).alloc (.cells #[.int .u32 0] 32)) := by
    have hns := HN.out.ns
    refine ⟨⟨(HA2.out.alloc _).alloc _, HN.out.inv, by rw [hns]; exact wf0, HN.out.most, by rw [hns]; exact HX.out.keep0 (((Only.refl _ _).alloc _).alloc _), ?_, fun k hk hf => ?_, (HO2.out.alloc _).alloc _, fun k hk => by have := hf1 k hk; omega, fun k hk => ?_⟩, (Blk.new _ _ _).alloc _, (HB2.out.alloc _).alloc _, hl2⟩
    · rw [hns]
      have h := World.ownsRow_lit (w2.alloc (.cells #[.slice (some ⟨gx, 0, none⟩) 1 cx, .int .i64 1000] 29)) (base := 0) (e := 32) (size := 1) #[.int .u32 0] 1 (Nat.zero_le _) (by unfold maxLen; omega) rfl
      rw [World.size_alloc] at h
      exact h
    · have : w2.heap.size + 1 = k := by simpa [Value.ownBlock] using hk
      have := HA2.out.lt hf
      omega
    · have : w2.heap.size + 1 = k := by simpa [Value.ownBlock] using hk
      omega
  have HGL := Lib.hid hGL
  have hlen1 : A.ns.length = 1 := by rw [HN.out.ns]; rfl
  clear hGL
  obtain ⟨P, hP⟩ : ∃ P, P = A.p := ⟨_, rfl⟩
  obtain ⟨b9, hb9⟩ : ∃ b, b = w2.heap.size := ⟨_, rfl⟩
  simp only [← hP, ← hb9] at HGL ⊢
  have HP := Lib.hid hP
  clear hP hb9
  go_loopw [10, 11] (fun v c wr => ∃ (i : Nat) (A' : Ars) (vx vat : Value), c = .int .i64 i ∧ vat = v ∧ A'.p = P ∧ i ≤ 10 ∧ A'.ns.length ≤ 1 + i ∧ GL w A' vx vat b9 wr) (fun _ c _ => 10 - (intOf c).toNat)
  case atStart => exact ⟨0, A, _, _, rfl, rfl, HP.out.symm, by omega, by omega, HGL.out⟩
  case round =>
    obtain ⟨i, A', vx, vat, rfl, rfl, hp, hi, hns, hG⟩ := hrel
    have hpos := hG.gr.wf.pos
    obtain ⟨gx, cx, hvx, _⟩ := own_form hG.gr.ref hpos
    subst hvx
    have hrowl : (List.range A'.ns.length).length = A'.ns.length := by simp
    have hrow := hG.gr.row
    obtain ⟨ga, ca, hva, _⟩ := own_form hrow (by omega)
    rw [hrowl] at hva
    subst hva
    rw [hrowl] at hrow
    have c0 : wr.cell? ⟨b9, 0, none⟩ = some (.slice (some ⟨gx, 0, none⟩) A'.ns.length cx) := hG.box.cell 0
    have c1 : wr.cell? ⟨b9, 1, none⟩ = some (.int .i64 1000) := hG.box.cell 1
    have hlb := hG.box.lt
    have HG := Lib.hid hG
    have HRow := Lib.hid hrow
    have Hp := Lib.hid hp
    clear hG hrow hp
    have hx : (i < n ∧ i < 10) ∨ (¬ i < n) ∨ (i < n ∧ ¬ i < 10) := by omega
    rcases hx with ⟨hin, h10⟩ | hin | ⟨hin, h10⟩
    ·
        --FAST{
        obtain ⟨b, off, z, hz, hzl, hcz⟩ := HU.out.cell i hin
        subst hz
        have hbl : b < w.heap.size := World.block_lt_of_cell? w _ hcz
        have d0 := HG.out.gr.only.cell hcz (fun h => h)
        have hlf := fun W (hW : RefAt W (.slice (some ⟨gx, 0, none⟩) A'.ns.length cx) A'.ns) => rLeaf_any A'.ns (.slice (some ⟨gx, 0, none⟩) A'.ns.length cx) 1000 z W hW hpos (by omega) (by omega) hzl
        have HLF := Lib.hid hlf
        clear hlf hcz
        go_wp2_with fail
        have hS : wr.drew.cell? ⟨b9, 0, none⟩ = some (.slice (some ⟨gx, 0, none⟩) A'.ns.length cx) ∧ wr.drew.cell? ⟨b9, 1, none⟩ = some (.int .i64 1000) ∧ wr.drew.cell? ⟨b, off + i, none⟩ = some (.int .u32 z) := ⟨c0, c1, d0⟩
        have hX0 := HG.out.gr.ref.keep0 (Only.refl (fun _ => False) wr).drew
        have hoD : Only (fun _ => False) wr wr.drew := (Only.refl _ _).drew
        have HS := Lib.hid hS
        refine wp_region_plan (fun W => W.cell? ⟨b9, 0, none⟩ = some (.slice (some ⟨gx, 0, none⟩) A'.ns.length cx) ∧ W.cell? ⟨b9, 1, none⟩ = some (.int .i64 1000) ∧ W.cell? ⟨b, off + i, none⟩ = some (.int .u32 z))
          (.head 0 (.head 1 (.head 2 (.head 3 (.head 4 (.two 5 (.head 6 (.head 7 (.head 8 (.head 9 (.one 10 (.one 11 (.one 12 (.one 13 .stop)))))))) 10 (.one 5 (.head 6 (.head 7 (.head 8 (.head 9 (.one 11 (.one 12 (.one 13 .stop))))))))))))))
          [] (by kernel_rfl) (by kernel_rfl) (fun _ _ d _ _ h => by cases d <;> exact h) hS ?_
        clear hS c0 c1 d0
        iterate 5
          refine stepP_head (v := ?_) rfl rfl ?_ ?_
          rotate_left
          · rintro W' ⟨c0, c1, d0⟩
            go_simp
            try rfl
          try simp only [Act.put, List.setIfInBounds_toArray, List.set_cons_zero, List.set_cons_succ]
        generalize wr.drew = U at *
        have HX0 := Lib.hid hX0
        have HOD := Lib.hid hoD
        clear hX0 hoD
        have hlU := HOD.out.size
        refine stepP_two rfl rfl ?b1 ?b2
        case' b1 =>
          go_wp2_with fail
          refine (HLF.out _ HX0.out).mono ?_
          rintro e W ⟨vx', rfl, hX, hO⟩
          obtain ⟨a2, c2, hv2, _⟩ := own_slice hX
          subst hv2
          go_wp2_with fail
          refine ⟨⟨hO.cell HS.out.1 (fun h => h), hO.cell HS.out.2.1 (fun h => h), hO.cell HS.out.2.2 (fun h => h)⟩, ?_⟩
          iterate 4
            refine stepP_head (v := ?_) rfl rfl ?_ ?_
            rotate_left
            · intro W' _
              go_simp
              try rfl
            try simp only [Act.put, List.setIfInBounds_toArray, List.set_cons_zero, List.set_cons_succ]
          refine stepP_one rfl ?_
          go_wp2_with fail
          have hO2 := (hO.alloc (.cells #[.slice none 0 0, .int .i64 0] 29))
          refine ⟨⟨hO2.cell HS.out.1 (fun h => h), hO2.cell HS.out.2.1 (fun h => h), hO2.cell HS.out.2.2 (fun h => h)⟩, ?_⟩
          refine stepP_one rfl ?_
          go_wp2_with fail
          have hOV := hO.alloc (.cells #[.slice a2 (findR A'.ns 1000 (leafKey z) (popc z)).2.2.length c2, .int .i64 1000] 29)
          have hBX := Blk.new W 29 #[.slice a2 (findR A'.ns 1000 (leafKey z) (popc z)).2.2.length c2, .int .i64 1000]
          have hXV := hX.keep0 ((Only.refl (fun _ => False) W).alloc (.cells #[.slice a2 (findR A'.ns 1000 (leafKey z) (popc z)).2.2.length c2, .int .i64 1000] 29))
          have hqU : U.heap.size ≤ W.heap.size := hO.size
          clear hO hO2 hX
          generalize World.alloc W _ = V at hOV hBX hXV ⊢
          generalize W.heap.size = q at hBX hqU ⊢
          have HSV := Lib.hid (show V.cell? ⟨b9, 0, none⟩ = some (.slice (some ⟨gx, 0, none⟩) A'.ns.length cx) ∧ V.cell? ⟨b9, 1, none⟩ = some (.int .i64 1000) ∧ V.cell? ⟨b, off + i, none⟩ = some (.int .u32 z) from ⟨hOV.cell HS.out.1 (fun h => h), hOV.cell HS.out.2.1 (fun h => h), hOV.cell HS.out.2.2 (fun h => h)⟩)
          have HOV := Lib.hid hOV
          have HBX := Lib.hid hBX
          have HXV := Lib.hid hXV
          clear hOV hBX hXV
          refine ⟨HSV.out, stepP_one rfl ?_⟩
          go_wp2_with fail
          refine ⟨HSV.out, stepP_one rfl ?_⟩
          go_wp2_with fail
          refine ⟨HSV.out, stepP_stop ?_⟩
          simp only [pick]
        case' b2 =>
          go_wp2_with fail
          have hO0 := ((Only.refl (fun _ => False) U).alloc (.cells #[.slice none 0 0, .int .i64 0] 29))
          have hB0 := Blk.new U 29 #[.slice none 0 0, .int .i64 0]
          refine ⟨⟨hO0.cell HS.out.1 (fun h => h), hO0.cell HS.out.2.1 (fun h => h), hO0.cell HS.out.2.2 (fun h => h)⟩, ?_⟩
          refine stepP_one rfl ?_
          go_wp2_with fail
          refine (HLF.out _ (HX0.out.keep0 hO0)).mono ?_
          rintro e W ⟨vx', rfl, hX, hO⟩
          obtain ⟨a2, c2, hv2, _⟩ := own_slice hX
          subst hv2
          have hOW := hO0.trans hO (fun _ _ h => h)
          have hB1 := hB0.only hO (fun h => h)
          go_wp2_with fail
          refine ⟨⟨hOW.cell HS.out.1 (fun h => h), hOW.cell HS.out.2.1 (fun h => h), hOW.cell HS.out.2.2 (fun h => h)⟩, ?_⟩
          iterate 4
            refine stepP_head (v := ?_) rfl rfl ?_ ?_
            rotate_left
            · intro W' _
              go_simp
              try rfl
            try simp only [Act.put, List.setIfInBounds_toArray, List.set_cons_zero, List.set_cons_succ]
          refine stepP_one rfl ?_
          have y3 : W.cell? ⟨U.heap.size, 0, none⟩ = some (.slice none 0 0) := hB1.cell 0
          have y4 : W.cell? ⟨U.heap.size, 1, none⟩ = some (.int .i64 0) := hB1.cell 1
          have y5 : W.frozen? ⟨U.heap.size, 0, none⟩ = false := hB1.frozen 0
          have y6 : W.frozen? ⟨U.heap.size, 1, none⟩ = false := hB1.frozen 1
          have HB1 := Lib.hid hB1
          have HOW := Lib.hid hOW
          have HXX := Lib.hid hX
          clear hB1 hOW hX hO hO0 hB0
          go_wp2_with fail
          have hOV := (HOW.out.setCell (p := ⟨U.heap.size, 0, none⟩) (fun h => by simp only at h; omega) (.slice a2 (findR A'.ns 1000 (leafKey z) (popc z)).2.2.length c2)).setCell (p := ⟨U.heap.size, 1, none⟩) (fun h => by simp only at h; omega) (.int .i64 1000)
          have hBX : Blk ((W.setCell ⟨U.heap.size, 0, none⟩ (.slice a2 (findR A'.ns 1000 (leafKey z) (popc z)).2.2.length c2)).setCell ⟨U.heap.size, 1, none⟩ (.int .i64 1000)) U.heap.size 29 #[.slice a2 (findR A'.ns 1000 (leafKey z) (popc z)).2.2.length c2, .int .i64 1000] := (HB1.out.set_ 0 _).set_ 1 _
          have hXV := (HXX.out.keep (Only.set1 _ U.heap.size 0 (.slice a2 (findR A'.ns 1000 (leafKey z) (popc z)).2.2.length c2)) (fun k hk e => own_blk_ne HXX.out HB1.out (by decide) (hk.trans (congrArg some e)))).keep (Only.set1 _ U.heap.size 1 (.int .i64 1000)) (fun k hk e => own_blk_ne HXX.out HB1.out (by decide) (hk.trans (congrArg some e)))
          obtain ⟨q, hq⟩ : ∃ q, q = U.heap.size := ⟨_, rfl⟩
          have hqU : U.heap.size ≤ q := by omega
          clear y3 y4 y5 y6 HB1 HXX HOW
          generalize World.setCell (World.setCell W _ _) _ _ = V at hOV hBX hXV ⊢
          simp only [← hq] at hBX ⊢
          clear hq
          have HSV := Lib.hid (show V.cell? ⟨b9, 0, none⟩ = some (.slice (some ⟨gx, 0, none⟩) A'.ns.length cx) ∧ V.cell? ⟨b9, 1, none⟩ = some (.int .i64 1000) ∧ V.cell? ⟨b, off + i, none⟩ = some (.int .u32 z) from ⟨hOV.cell HS.out.1 (fun h => h), hOV.cell HS.out.2.1 (fun h => h), hOV.cell HS.out.2.2 (fun h => h)⟩)
          have HOV := Lib.hid hOV
          have HBX := Lib.hid hBX
          have HXV := Lib.hid hXV
          clear hOV hBX hXV
          refine ⟨HSV.out, stepP_one rfl ?_⟩
          go_wp2_with fail
          refine ⟨HSV.out, stepP_one rfl ?_⟩
          go_wp2_with fail
          refine ⟨HSV.out, stepP_stop ?_⟩
          simp only [pick]
        all_goals
          have hoW := HOD.out.trans HOV.out (fun _ _ h => h)
          have hAV := HG.out.gr.at_.keep hoW (fun _ _ h => h)
          have hlf2 := Leaf_any A' z V hAV HG.out.gr.inv (by omega) hzl
          rw [Hp.out] at hlf2
          have hLF2 := Lib.hid hlf2
          have d0 : V.cell? ⟨b, off + i, none⟩ = some (.int .u32 z) := HSV.out.2.2
          have HoW := Lib.hid hoW
          have hqV := HBX.out.lt
          clear hlf2 hAV hoW
          go_wp2_with fail
          refine (hLF2.out).mono ?_
          rintro e W2 ⟨D, hSt, rfl⟩
          have hmo := HG.out.gr.most
          obtain ⟨hc0, hcase⟩ := findR_cases A'.ns 1000 (leafKey z) (popc z) (by omega)
          obtain ⟨kk, cc, L, hR⟩ : ∃ kk cc L, findR A'.ns 1000 (leafKey z) (popc z) = (kk, cc, L) := ⟨_, _, _, rfl⟩
          simp only [hmo, hR] at hSt hc0 hcase HXV HBX ⊢
          subst hc0
          have hDns := hSt.ns
          subst hDns
          have hWD : Wf D.ns := by
            rcases hcase with ⟨e, _⟩ | ⟨e, _⟩
            · rw [e]; exact HG.out.gr.wf
            · rw [e]; exact HG.out.gr.wf.push_leaf z
          have hMid := HG.out.mid HoW.out HXV.out HBX.out (by have := HOD.out.size; omega) hSt hWD
          have HMid := Lib.hid hMid
          have HCase := Lib.hid hcase
          have m0 : W2.cell? ⟨b9, 0, none⟩ = some (.slice (some ⟨gx, 0, none⟩) A'.ns.length cx) := hMid.box.cell 0
          have m1 : W2.cell? ⟨b9, 1, none⟩ = some (.int .i64 1000) := hMid.box.cell 1
          have m2 : W2.frozen? ⟨b9, 0, none⟩ = false := hMid.box.frozen 0
          have m3 : W2.frozen? ⟨b9, 1, none⟩ = false := hMid.box.frozen 1
          have m4 : W2.cell? ⟨q, 0, none⟩ = some (.slice a2 D.ns.length c2) := hMid.box2.cell 0
          have m5 : W2.cell? ⟨q, 1, none⟩ = some (.int .i64 1000) := hMid.box2.cell 1
          have hl9 := hMid.box.lt
          have hlq := hMid.box2.lt
          clear hMid hcase hSt hWD hR hmo d0
          have herr : errV 0 = .nilIface := rfl
          rw [herr]
          clear herr
          rcases HCase.out with ⟨hL, hkk⟩ | ⟨hL, hkk⟩
          · have hne : ((kk : Int) == (A'.ns.length : Int)) = false := by simp; omega
            have hDl : D.ns.length = A'.ns.length := by rw [hL]
            have HDl := Lib.hid hDl
            clear hL hDl HCase
            go_wp2
            go_roundw
            case rel =>
              go_light
              exact ⟨i + 1, D, _, _, by go_num, rfl, HMid.out.p.trans Hp.out, h10, by rw [HDl.out]; omega, HMid.out.same HDl.out⟩
            case measure => simp [intOf]; omega
          · subst hkk
            have hDl : D.ns.length = A'.ns.length + 1 := by rw [hL]; simp
            have HDl := Lib.hid hDl
            clear hL hDl HCase
            have o12 := (Only.set1 W2 b9 0 (.slice a2 D.ns.length c2)).trans (Only.set1 (W2.setCell ⟨b9, 0, none⟩ (.slice a2 D.ns.length c2)) b9 1 (.int .i64 1000)) (fun _ _ h => h)
            have hrw := (own_only HMid.out.row o12 (fun k hk e => own_blk_ne HMid.out.row HMid.out.box (by decide) (hk.trans (congrArg some e)))).alloc (.cells #[.int .u32 A'.ns.length] 32)
            have HRW := Lib.hid hrw
            clear o12 hrw
            go_wp2_with (first
              | (at_builtin; refine wp_push _ rfl _ _ 22 rfl 32 .u32 4 u32_info (by omega) Try.underlying22 0 (.slice (some ⟨ga, 0, none⟩) A'.ns.length ca) (List.range A'.ns.length) rfl HRW.out (by rw [hrowl]; omega) (Nat.zero_le _) W2.heap.size A'.ns.length rfl (Blk.at (by simp)) ?_; intro g' cp4 W4 hr4 hg4 hat4 hlt4; simp only [List.length_range] at hr4 ⊢)
              | fail)
            go_roundw
            case rel =>
              go_light
              have hat5 : (Value.slice (some ⟨ga, 0, none⟩) A'.ns.length ca).ownBlock = some g' ∨ W2.heap.size ≤ g' := by
                rcases hat4 with h | h
                · exact .inl h
                · right; simp only [World.size_alloc, World.size_setCell] at h; omega
              exact ⟨i + 1, D, _, _, by go_num, rfl, HMid.out.p.trans Hp.out, h10, by rw [HDl.out]; omega, HMid.out.more HDl.out (by simpa using hr4) hg4 hat5⟩
            case measure => simp [intOf]; omega
        --FAST}
    all_goals
      clear c0 c1
      go_wp2_with fail
      go_loopw [10, 17] (fun v c wr => ∃ (i : Nat) (A' : Ars) (vx vat : Value), c = .int .i64 i ∧ vat = v ∧ A'.p = P ∧ i ≤ 20 ∧ A'.ns.length ≤ 11 + i ∧ GL w A' vx vat b9 wr) (fun _ c _ => 20 - (intOf c).toNat)
      case atStart => exact ⟨0, A', _, _, rfl, rfl, Hp.out, by omega, by omega, HG.out⟩
      case round =>
        obtain ⟨k, B, vy, vbt, rfl, rfl, hp2, hk, hns2, hG2⟩ := hrel
        have hpos2 := hG2.gr.wf.pos
        obtain ⟨gy, cy, hvy, _⟩ := own_form hG2.gr.ref hpos2
        subst hvy
        have hrl2 : (List.range B.ns.length).length = B.ns.length := by simp
        have hrow2 := hG2.gr.row
        obtain ⟨gb, cb, hvb, _⟩ := own_form hrow2 (by omega)
        rw [hrl2] at hvb
        subst hvb
        have c0 : wr.cell? ⟨b9, 0, none⟩ = some (.slice (some ⟨gy, 0, none⟩) B.ns.length cy) := hG2.box.cell 0
        have c1 : wr.cell? ⟨b9, 1, none⟩ = some (.int .i64 1000) := hG2.box.cell 1
        have hlb2 := hG2.box.lt
        have HG2 := Lib.hid hG2
        have HRow2 := Lib.hid hrow2
        have Hp2 := Lib.hid hp2
        clear hG2 hrow2 hp2
        have hx2 : (k < n4 ∧ k < 20) ∨ (¬ k < n4) ∨ (k < n4 ∧ ¬ k < 20) := by omega
        rcases hx2 with ⟨hkn, hk20⟩ | hkn | ⟨hkn, hk20⟩
        ·
          --FAST{
          obtain ⟨b, off, z0, z1, z2, z3, hz, e0, e1, e2, e3, w0, w1', w2', w3'⟩ := H4.out.cell k hkn
          subst hz
          have d0 := HG2.out.gr.only.cell e0 (fun h => h)
          have d1 := HG2.out.gr.only.cell e1 (fun h => h)
          have d2 := HG2.out.gr.only.cell e2 (fun h => h)
          have d3 := HG2.out.gr.only.cell e3 (fun h => h)
          have hbl2 : b < wr.heap.size := World.block_lt_of_cell? wr _ d0
          clear e0 e1 e2 e3
          go_wp2_with fail
          have hGI0 : GI w B (.slice (some ⟨gy, 0, none⟩) B.ns.length cy) (.slice (some ⟨gb, 0, none⟩) B.ns.length cb) b9 wr.heap.size (wr.heap.size + 1) 0 ((wr.alloc (.cells #[.int .i64 0, .int .i64 0, .int .i64 0, .int .i64 0] 33)).alloc (.cells #[.int .u32 0, .int .u32 0, .int .u32 0, .int .u32 0] 91)) :=
            ⟨HG2.out.keep (((Only.refl (fun _ => False) wr).alloc _).alloc _) (fun _ h => h.elim), by omega, 0, 0, 0, 0, (Blk.new _ _ _).alloc _, Blk.at (by simp), fun i hi => by omega, fun i _ hi => match i, hi with | 0, _ => rfl | 1, _ => rfl | 2, _ => rfl | 3, _ => rfl⟩
          have HGI0 := Lib.hid hGI0
          clear hGI0
          obtain ⟨c18, hc18⟩ : ∃ c, c = wr.heap.size := ⟨_, rfl⟩
          have hc9 : b9 < c18 := by omega
          simp only [← hc18] at HGI0 ⊢
          clear hc18
          go_loopw [85] (fun c wi => ∃ j : Nat, c = .int .i64 j ∧ GI w B (.slice (some ⟨gy, 0, none⟩) B.ns.length cy) (.slice (some ⟨gb, 0, none⟩) B.ns.length cb) b9 c18 (c18 + 1) j wi) (fun c _ => 4 - (intOf c).toNat)
          case atStart => exact ⟨0, rfl, HGI0.out⟩
          case round =>
            obtain ⟨j, rfl, hGI⟩ := hrel
            obtain ⟨f0, f1, f2, f3, hb18, hb19, hlt, hzr⟩ := hGI.ex
            have hle4 := hGI.le
            have hGLi := hGI.gl
            have HGLi := Lib.hid hGLi
            have HB18 := Lib.hid hb18
            have HB19 := Lib.hid hb19
            have HLT := Lib.hid hlt
            have HZR := Lib.hid hzr
            clear hGI hGLi hb18 hb19 hlt hzr
            by_cases hj4 : j < 4
            · obtain ⟨z, hzz, hix⟩ := jdx4I z0 z1 z2 z3 j hj4 w0 w1' w2' w3'
              obtain ⟨m0, hm0, hm0l⟩ := and16 z
              have hmr : (m0 : Int) % (B.ns.length : Int) = ((m0 % B.ns.length : Nat) : Int) := by omega
              have hml : m0 % B.ns.length < B.ns.length := Nat.mod_lt _ (by omega)
              obtain ⟨m, hm⟩ : ∃ m, m = m0 % B.ns.length := ⟨_, rfl⟩
              rw [← hm] at hmr hml
              clear hm
              unfold In64 at hzz
              have hj4' : (j : Int) < 4 := by omega
              have hjf : wr.frozen? ⟨c18, j, none⟩ = false := HB18.out.frozen j
              have hjc : wr.cell? ⟨c18, j, none⟩ = some (.int .i64 (four f0 f1 f2 f3 j : Nat)) := by rw [HB18.out.cell, ints4_get _ _ _ _ _ hj4]
              have hl18 := HB18.out.lt
              have hl19 := HB19.out.lt
              obtain ⟨u0, u1, u2, u3, e1, _, e3⟩ := ints4_set f0 f1 f2 f3 j m hj4
              obtain ⟨g0, hg0⟩ : ∃ g0, g0 = if j = 0 then m else f0 := ⟨_, rfl⟩
              have hg0l : g0 < B.ns.length := by
                by_cases e : j = 0
                · rw [hg0, if_pos e]; exact hml
                · rw [hg0, if_neg e]; exact (HLT.out 0 (by omega)).1
              have hgl0 : lvN B.ns g0 = lvN B.ns (if j = 0 then g0 else f0) := by
                by_cases e : j = 0
                · rw [if_pos e]
                · rw [if_neg e, hg0, if_neg e]
              have HGL0 := Lib.hid hgl0
              have HE1 := Lib.hid e1
              have HE3 := Lib.hid e3
              have HG0 := Lib.hid hg0
              clear hgl0 e1 e3 hg0
              go_wp2_with fail
              have hU := (Only.refl (fun k => k = c18 ∨ k = c18 + 1) wr).setCell (p := ⟨c18, j, none⟩) (fun _ => Or.inl rfl) (.int .i64 m)
              have hB1 : Blk (wr.setCell ⟨c18, j, none⟩ (.int .i64 m)) c18 33 (ints4 u0 u1 u2 u3) := by rw [← HE1.out]; exact HB18.out.set_ j _
              have hB2 : Blk (wr.setCell ⟨c18, j, none⟩ (.int .i64 m)) (c18 + 1) 91 (kidsCells f0 f1 f2 f3) := HB19.out.far (by simp) _
              have hGU := HGLi.out.box4 HB18.out HB19.out hc9 (by omega) hU
              generalize wr.setCell ⟨c18, j, none⟩ (.int .i64 m) = U at hU hB1 hB2 hGU ⊢
              have x0 : U.cell? ⟨b9, 0, none⟩ = some (.slice (some ⟨gy, 0, none⟩) B.ns.length cy) := hGU.box.cell 0
              have x1 : U.cell? ⟨c18, j, none⟩ = some (.int .i64 m) := by rw [hB1.cell, ints4_get _ _ _ _ _ hj4, HE3.out j hj4, if_pos rfl]
              have x2 : U.cell? ⟨c18, 0, none⟩ = some (.int .i64 g0) := by
                rw [hB1.cell, ints4_get _ _ _ _ 0 (by omega), HE3.out 0 (by omega), HG0.out]
                by_cases e : j = 0
                · rw [if_pos e.symm, if_pos e]
                · rw [if_neg (fun h => e h.symm), if_neg e]; rfl
              have x3 : U.frozen? ⟨c18, j, none⟩ = false := hB1.frozen j
              have x4 : U.frozen? ⟨c18 + 1, j, none⟩ = false := hB2.frozen j
              have x5 : U.cell? ⟨c18 + 1, j, none⟩ = some (.int .u32 (four f0 f1 f2 f3 j : Nat)) := by rw [hB2.cell, box_get _ _ _ _ _ hj4]
              have x6 := range_cell hGU.gr.row hml
              have x7 := range_cell hGU.gr.row hg0l
              have x8 : gb ≠ c18 := fun e => own_blk_ne hGU.gr.row hB1 (by decide) (by rw [← e]; rfl)
              have x9 : gb ≠ c18 + 1 := fun e => own_blk_ne hGU.gr.row hB2 (by decide) (by rw [← e]; rfl)
              obtain ⟨g', cp', hv', _, _, hcm⟩ := hGU.gr.ref.node hml
              have h := hv'
              simp only [Value.slice.injEq, Option.some.injEq, Addr.mk.injEq] at h
              obtain ⟨⟨rfl, _⟩, _, rfl⟩ := h
              obtain ⟨g', cp', hv', _, _, hcg⟩ := hGU.gr.ref.node hg0l
              have h := hv'
              simp only [Value.slice.injEq, Option.some.injEq, Addr.mk.injEq] at h
              obtain ⟨⟨rfl, _⟩, _, rfl⟩ := h
              have n1 : U.cell? ⟨gy, m * 7, none⟩ = some (.int .i64 (lvN B.ns m)) := hcm.c0
              have n2 : U.cell? ⟨gy, g0 * 7, none⟩ = some (.int .i64 (lvN B.ns g0)) := hcg.c0
              have i1 : (m : Int) < (B.ns.length : Int) := by omega
              have i2 : (g0 : Int) < (B.ns.length : Int) := by omega
              have HU' := Lib.hid hU
              have HB1 := Lib.hid hB1
              have HB2 := Lib.hid hB2
              have HGU := Lib.hid hGU
              clear hU hB1 hB2 hGU hcm hcg hv'
              go_quiet (fail)
              go_wp2_with fail
              · go_roundw
                case rel =>
                  go_light
                  exact ⟨j + 1, by go_num, GI.first HGU.out HB1.out HB2.out hc9 (by omega) (by omega) hj4 HLT.out HZR.out HE3.out hg0l HGL0.out _⟩
                case measure => simp [intOf]; omega
              · have hq : lvN B.ns m = lvN B.ns g0 := by have h := ‹((lvN B.ns m : Int) != (lvN B.ns g0 : Int)) = false›; simp only [bne_eq_false_iff_eq] at h; omega
                go_roundw
                case rel =>
                  go_light
                  exact ⟨j + 1, by go_num, GI.stay HGU.out HB1.out HB2.out hc9 (by omega) (by omega) hj4 HLT.out HZR.out HE3.out hml (by rw [hq, HG0.out]) _⟩
                case measure => simp [intOf]; omega
            · obtain rfl : j = 4 := by omega
              have hok : ∀ i, kidOk B.ns f0 (four f0 f1 f2 f3 i) := fun i => by
                rw [four_lt]
                exact HLT.out (min i 3) (by omega)
              have hd43 : lvN B.ns f0 ≤ 43 := by
                have h1 := HGLi.out.gr.wf.lv_le f0 (hok 0).1
                have h2 := (hok 0).1
                rw [four0] at h2
                omega
              have hfl : ∀ i, four f0 f1 f2 f3 i < B.ns.length := fun i => (hok i).1
              have hpush := HGLi.out.gr.wf.push_join hok hd43
              have hrj := rJoin_any B.ns (.slice (some ⟨gy, 0, none⟩) B.ns.length cy) 1000 f0 f1 f2 f3 wr HGLi.out.gr.ref (by omega) (by omega) hok hd43 HGLi.out.gr.inv.cnt
              have hjn : ∀ W, B.At W → Calls Try.prog 42 #[.pointer (some ⟨P, 0, none⟩), .agg #[.int .u32 f0, .int .u32 f1, .int .u32 f2, .int .u32 f3]] W (FindPost B W (joinKey B.ns f0 f1 f2 f3) (sumTo B.ns (four f0 f1 f2 f3) 4)) := fun W hW => by
                have a0 : f0 < B.ns.length := hfl 0
                have a1 : f1 < B.ns.length := hfl 1
                have a2 : f2 < B.ns.length := hfl 2
                have a3 : f3 < B.ns.length := hfl 3
                have h := Join_any B f0 f1 f2 f3 W hW HGLi.out.gr.inv (by omega) (by omega) (by omega) (by omega) (by omega)
                rw [Hp2.out] at h
                refine h.mono fun e w' hp => ?_
                unfold JoinPost at hp
                rw [if_pos ⟨hok 0, hok 1, hok 2, hok 3⟩, if_neg (by omega)] at hp
                exact hp
              generalize joinKey B.ns f0 f1 f2 f3 = JK at hrj hjn hpush
              generalize sumTo B.ns (four f0 f1 f2 f3) 4 = SC at hrj hjn hpush
              have p0 : wr.cell? ⟨b9, 0, none⟩ = some (.slice (some ⟨gy, 0, none⟩) B.ns.length cy) := HGLi.out.box.cell 0
              have p1 : wr.cell? ⟨b9, 1, none⟩ = some (.int .i64 1000) := HGLi.out.box.cell 1
              have q0 : wr.cell? ⟨c18, 0, none⟩ = some (.int .i64 f0) := HB18.out.cell 0
              have q1 : wr.cell? ⟨c18, 1, none⟩ = some (.int .i64 f1) := HB18.out.cell 1
              have q2 : wr.cell? ⟨c18, 2, none⟩ = some (.int .i64 f2) := HB18.out.cell 2
              have q3 : wr.cell? ⟨c18, 3, none⟩ = some (.int .i64 f3) := HB18.out.cell 3
              have HRJ := Lib.hid hrj
              have HJN := Lib.hid hjn
              have HPU := Lib.hid hpush
              clear hrj hjn hpush hok hfl
              go_wp2_with fail
              refine (HRJ.out).mono ?_
              rintro e W ⟨vx', rfl, hX, hO⟩
              obtain ⟨a2, c2, hv2, _⟩ := own_slice hX
              subst hv2
              have hW19 := HB19.out.only hO (fun h => h)
              have s0 : W.cell? ⟨c18 + 1, 0, none⟩ = some (.int .u32 f0) := hW19.cell 0
              have s1 : W.cell? ⟨c18 + 1, 1, none⟩ = some (.int .u32 f1) := hW19.cell 1
              have s2 : W.cell? ⟨c18 + 1, 2, none⟩ = some (.int .u32 f2) := hW19.cell 2
              have s3 : W.cell? ⟨c18 + 1, 3, none⟩ = some (.int .u32 f3) := hW19.cell 3
              have hl19 := hW19.lt
              clear hW19
              go_wp2_with fail
              have hOV := hO.alloc (.cells #[.slice a2 (findR B.ns 1000 JK SC).2.2.length c2, .int .i64 1000] 29)
              have hBX := Blk.new W 29 #[.slice a2 (findR B.ns 1000 JK SC).2.2.length c2, .int .i64 1000]
              have hXV := hX.keep0 ((Only.refl (fun _ => False) W).alloc (.cells #[.slice a2 (findR B.ns 1000 JK SC).2.2.length c2, .int .i64 1000] 29))
              have hqU : wr.heap.size ≤ W.heap.size := hO.size
              clear hO hX s0 s1 s2 s3 hl19 p0 p1 q0 q1 q2 q3
              generalize World.alloc W _ = V at hOV hBX hXV ⊢
              generalize W.heap.size = q at hBX hqU ⊢
              have hAV := HGLi.out.gr.at_.keep hOV (fun _ _ h => h)
              have HOV := Lib.hid hOV
              have HBX := Lib.hid hBX
              have HXV := Lib.hid hXV
              clear hOV hBX hXV
              refine (HJN.out V hAV).mono ?_
              rintro e W2 ⟨D, hSt, rfl⟩
              have hBX := HBX.out
              have hXV := HXV.out
              have hmo := HGLi.out.gr.most
              obtain ⟨hc0, hcase⟩ := findR_cases B.ns 1000 JK SC (by omega)
              obtain ⟨kk, cc, L, hR⟩ : ∃ kk cc L, findR B.ns 1000 JK SC = (kk, cc, L) := ⟨_, _, _, rfl⟩
              simp only [hmo, hR] at hSt hc0 hcase hXV hBX ⊢
              subst hc0
              have hDns := hSt.ns
              subst hDns
              have hWD : Wf D.ns := by
                rcases hcase with ⟨e, _⟩ | ⟨e, _⟩
                · rw [e]; exact HGLi.out.gr.wf
                · rw [e]; exact HPU.out
              have hMid := HGLi.out.mid HOV.out hXV hBX hqU hSt hWD
              have HMid := Lib.hid hMid
              have HCase := Lib.hid hcase
              have m0 : W2.cell? ⟨b9, 0, none⟩ = some (.slice (some ⟨gy, 0, none⟩) B.ns.length cy) := hMid.box.cell 0
              have m1 : W2.cell? ⟨b9, 1, none⟩ = some (.int .i64 1000) := hMid.box.cell 1
              have m2 : W2.frozen? ⟨b9, 0, none⟩ = false := hMid.box.frozen 0
              have m3 : W2.frozen? ⟨b9, 1, none⟩ = false := hMid.box.frozen 1
              have m4 : W2.cell? ⟨q, 0, none⟩ = some (.slice a2 D.ns.length c2) := hMid.box2.cell 0
              have m5 : W2.cell? ⟨q, 1, none⟩ = some (.int .i64 1000) := hMid.box2.cell 1
              have hl9 := hMid.box.lt
              have hlq := hMid.box2.lt
              clear hMid hcase hSt hWD hR hmo hBX hXV hAV
              have herr : errV 0 = .nilIface := rfl
              rw [herr]
              clear herr
              rcases HCase.out with ⟨hL, hkk⟩ | ⟨hL, hkk⟩
              · have hne : ((kk : Int) == (B.ns.length : Int)) = false := by simp; omega
                have hDl : D.ns.length = B.ns.length := by rw [hL]
                have HDl := Lib.hid hDl
                clear hL hDl HCase
                go_wp2
                go_roundw
                case rel =>
                  go_light
                  exact ⟨k + 1, D, _, _, by go_num, rfl, HMid.out.p.trans Hp2.out, hk20, by rw [HDl.out]; omega, HMid.out.same HDl.out⟩
                case measure => simp [intOf]; omega
              · subst hkk
                have hDl : D.ns.length = B.ns.length + 1 := by rw [hL]; simp
                have HDl := Lib.hid hDl
                clear hL hDl HCase
                have o12 := (Only.set1 W2 b9 0 (.slice a2 D.ns.length c2)).trans (Only.set1 (W2.setCell ⟨b9, 0, none⟩ (.slice a2 D.ns.length c2)) b9 1 (.int .i64 1000)) (fun _ _ h => h)
                have hrw := (own_only HMid.out.row o12 (fun k hk e => own_blk_ne HMid.out.row HMid.out.box (by decide) (hk.trans (congrArg some e)))).alloc (.cells #[.int .u32 B.ns.length] 32)
                have HRW := Lib.hid hrw
                clear o12 hrw
                go_wp2_with (first
                  | (at_builtin; refine wp_push _ rfl _ _ 22 rfl 32 .u32 4 u32_info (by omega) Try.underlying22 0 (.slice (some ⟨gb, 0, none⟩) B.ns.length cb) (List.range B.ns.length) rfl HRW.out (by rw [hrl2]; omega) (Nat.zero_le _) W2.heap.size B.ns.length rfl (Blk.at (by simp)) ?_; intro g' cp4 W4 hr4 hg4 hat4 hlt4; simp only [List.length_range] at hr4 ⊢)
                  | fail)
                go_roundw
                case rel =>
                  go_light
                  have hat5 : (Value.slice (some ⟨gb, 0, none⟩) B.ns.length cb).ownBlock = some g' ∨ W2.heap.size ≤ g' := by
                    rcases hat4 with h | h
                    · exact .inl h
                    · right; simp only [World.size_alloc, World.size_setCell] at h; omega
                  exact ⟨k + 1, D, _, _, by go_num, rfl, HMid.out.p.trans Hp2.out, hk20, by rw [HDl.out]; omega, HMid.out.more HDl.out (by simpa using hr4) hg4 hat5⟩
                case measure => simp [intOf]; omega
          --FAST}
        all_goals
          have r0 : wr.frozen? ⟨w.heap.size, 0, none⟩ = false := HG2.out.res.frozen 0
          have r1 : wr.frozen? ⟨w.heap.size, 1, none⟩ = false := HG2.out.res.frozen 1
          have r2 : wr.cell? ⟨w.heap.size, 0, none⟩ = some (.slice none 0 0) := HG2.out.res.cell 0
          have r3 : wr.cell? ⟨w.heap.size, 1, none⟩ = some (.int .i64 0) := HG2.out.res.cell 1
          have hl9 := HG2.out.lt9
          go_wp2_with fail
          go_region
          have hE := (((Only.refl (fun k => k = w.heap.size) wr).setCell (p := ⟨w.heap.size, 0, none⟩) (fun _ => rfl) (.slice (some ⟨gy, 0, none⟩) B.ns.length cy)).setCell (p := ⟨w.heap.size, 1, none⟩) (fun _ => rfl) (.int .i64 1000)).drew
          have hF := HG2.out.fin hE
          have hZ : Blk (((wr.setCell ⟨w.heap.size, 0, none⟩ (.slice (some ⟨gy, 0, none⟩) B.ns.length cy)).setCell ⟨w.heap.size, 1, none⟩ (.int .i64 1000)).drew) w.heap.size 29 #[.slice (some ⟨gy, 0, none⟩) B.ns.length cy, .int .i64 1000] := ((HG2.out.res.set_ 0 _).set_ 1 _).drew
          generalize World.drew (World.setCell (World.setCell wr _ _) _ _) = Z at hF hZ ⊢
          have z0 := hZ.cell 0
          have z1 := hZ.cell 1
          clear hZ hE
          go_wp2_with fail
          exact bodyPost_ret (v := .tuple #[.pointer (some ⟨P, 0, none⟩), .agg #[.slice (some ⟨gy, 0, none⟩) B.ns.length cy, .int .i64 1000], .slice (some ⟨gb, 0, none⟩) B.ns.length cb, .bool true]) (by simp [results, go_sem, z0, z1]) rfl ⟨B, _, _, by rw [Hp2.out], hF, by omega⟩
end Go.Proofs.Ytblhbfniomlfkaa
