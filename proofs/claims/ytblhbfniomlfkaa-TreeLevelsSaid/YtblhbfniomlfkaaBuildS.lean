/- tree.build: a square that holds points, from its quarters. -/
import Derived.Test.YtblhbfniomlfkaaBuild
namespace Go.Proofs.Ytblhbfniomlfkaa
open Go.RowKit

theorem bits_and1 (j : Nat) (h : j < 4) : bits .and .i64 (j : Int) 1 = ((j % 2 : Nat) : Int) :=
  match j, h with
  | 0, _ => by decide +kernel
  | 1, _ => by decide +kernel
  | 2, _ => by decide +kernel
  | 3, _ => by decide +kernel

theorem lows_end {w wo : World} {cs cs' cs12 cs7 : Array Value} {x y : Value} {i0 i1 : Nat} (hB7 : Blk wo w.heap.size 49 cs7) (hB12 : Blk wo (w.heap.size + 1) 137 cs12) (hB13 : Blk wo (w.heap.size + 1 + 1) 138 cs) (hO : Only (fun _ => False) w wo) (he : (cs.setIfInBounds i0 x).setIfInBounds i1 y = cs') :
    Blk ((wo.setCell ⟨w.heap.size + 1 + 1, i0, none⟩ x).setCell ⟨w.heap.size + 1 + 1, i1, none⟩ y) w.heap.size 49 cs7 ∧ Blk ((wo.setCell ⟨w.heap.size + 1 + 1, i0, none⟩ x).setCell ⟨w.heap.size + 1 + 1, i1, none⟩ y) (w.heap.size + 1) 137 cs12 ∧
      Blk ((wo.setCell ⟨w.heap.size + 1 + 1, i0, none⟩ x).setCell ⟨w.heap.size + 1 + 1, i1, none⟩ y) (w.heap.size + 1 + 1) 138 cs' ∧ Only (fun _ => False) w ((wo.setCell ⟨w.heap.size + 1 + 1, i0, none⟩ x).setCell ⟨w.heap.size + 1 + 1, i1, none⟩ y) :=
  ⟨(hB7.far (by simp; omega) _).far (by simp; omega) _, (hB12.far (by simp) _).far (by simp) _, by rw [← he]; exact (hB13.set_ i0 x).set_ i1 y, (hO.setCell (p := ⟨w.heap.size + 1 + 1, i0, none⟩) (fun h => by simp only at h; omega) x).setCell (p := ⟨w.heap.size + 1 + 1, i1, none⟩) (fun h => by simp only at h; omega) y⟩

set_option maxRecDepth 100000 in
set_option maxHeartbeats 4000000 in
theorem build_step (l : Nat) (hl : 2 ≤ l) (hl' : l ≤ 43) (ih : BuildSays l) (mb n : Nat) (ks : List Pt) (f : Pt → Nat) (A : Ars) (a b : Int) (v : Value) (pts : List Pt) (w : World) (hA : A.At w) (hI : A.Inv) (hW : Wf A.ns) (hE : Em A) (hM : PMapAt w mb n ks f) (hP : PtAt w v pts)
    (hB : BIn ks (l + 1) a b pts) (hpos : 0 < pts.length) (hr : (A.ns.length : Int) + (bud (l + 1) pts.length : Int) < A.most) (hN : A.ns.length + bud (l + 1) pts.length < 1073741824) (hpl : pts.length < 1000000) :
    Calls Try.prog 60 #[.pointer (some ⟨A.p, 0, none⟩), .int .i64 ((l : Int) + 1), .agg #[.int .i64 a, .int .i64 b], v, .map (some mb)] w (BuildPost A ks f (l + 1) a b pts.length w) := by
  obtain ⟨g, cap, hv, _⟩ := own_form hP hpos
  subst hv
  have HR := Lib.hid hr
  have HN := Lib.hid hN
  clear hr hN
  have hlo := hB.lo
  have hhi := hB.hi
  have hp2 : 2 ^ (l + 1) = 2 * 2 ^ l := by rw [Nat.pow_succ]; omega
  rw [hp2] at hhi
  obtain ⟨h, hh⟩ : ∃ h : Nat, h = 2 ^ l := ⟨_, rfl⟩
  have hquad := fun (x y : Int) W => quarter_any (l + 1) a b x y W (by omega) (by omega) (by omega) (by omega)
  rw [Nat.add_sub_cancel, show ((l + 1 : Nat) : Int) = (l : Int) + 1 from rfl] at hquad
  have hw1 : wrap64 (2 ^ l) = ((2 ^ l : Nat) : Int) := by
    have hle : 2 ^ l ≤ 8796093022208 := Nat.pow_le_pow_right (by omega) (by omega : l ≤ 43)
    have : ((2 ^ l : Nat) : Int) = (2 : Int) ^ l := by simp
    rw [← this]
    exact wrap_nat (by omega)
  rw [← hh] at hhi hw1 hquad
  have HH := Lib.hid hh
  have HIH := Lib.hid ih
  have HA := Lib.hid hA
  have HI := Lib.hid hI
  have HW := Lib.hid hW
  have HE := Lib.hid hE
  have HM := Lib.hid hM
  have HP := Lib.hid hP
  have HB := Lib.hid hB
  have HQ := Lib.hid hquad
  have HW1 := Lib.hid hw1
  clear hh hquad ih hA hI hW hE hM hP hB hp2 hw1
  have hd : ((pts.length : Int) == 0) = false := by
    have : pts.length ≠ 0 := by omega
    simpa using this
  have hd2 : ((l : Int) + 1 == 2) = false := by simp; omega
  have hl1 : (l : Int) ≤ 43 := by omega
  have hw1 := HW1.out
  go_enter Try.func60, Try.ntmps60
  go_wp2_with fail
  go_loopw [42] (fun c wr => ∃ i : Nat, c = .int .i64 i ∧ i ≤ 4 ∧ Blk wr w.heap.size 49 #[.int .i64 a, .int .i64 b] ∧ Blk wr (w.heap.size + 1) 137 #[.slice none 0 0, .slice none 0 0, .slice none 0 0, .slice none 0 0] ∧ Blk wr (w.heap.size + 1 + 1) 138 (lowsA h a b i) ∧ Only (fun _ => False) w wr) (fun c _ => 4 - (intOf c).toNat)
  case atStart => exact ⟨0, rfl, by omega, ((Blk.new _ _ _).alloc _).alloc _, (Blk.at (by simp)).alloc _, Blk.at (by simp), (((Only.refl _ _).alloc _).alloc _).alloc _⟩
  case round =>
    obtain ⟨i, rfl, hi4, hB7, hB12, hB13, hO⟩ := hrel
    obtain ⟨wo, hwo⟩ : ∃ wo : World, wo = wr := ⟨_, rfl⟩
    rw [← hwo] at hB7 hB12 hB13 hO ⊢
    clear hwo
    by_cases hlt : i < 4
    · have hcs : i = 0 ∨ i = 1 ∨ i = 2 ∨ i = 3 := by omega
      have a0 : wo.cell? ⟨w.heap.size, 0, none⟩ = some (.int .i64 a) := hB7.cell 0
      have a1 : wo.cell? ⟨w.heap.size, 1, none⟩ = some (.int .i64 b) := hB7.cell 1
      have hl7 := hB7.lt
      have hl13 := hB13.lt
      have HB7 := Lib.hid hB7
      have HB12 := Lib.hid hB12
      have HB13 := Lib.hid hB13
      have HO := Lib.hid hO
      have k0 : bits .and .i64 0 1 = 0 := by decide +kernel
      have k1 : bits .and .i64 1 1 = 1 := by decide +kernel
      have k2 : bits .and .i64 2 1 = 0 := by decide +kernel
      have k3 : bits .and .i64 3 1 = 1 := by decide +kernel
      clear hB7 hB12 hB13 hO
      rcases hcs with rfl | rfl | rfl | rfl
      · have f0 : wo.frozen? ⟨w.heap.size + 1 + 1, 0, none⟩ = false := HB13.out.frozen 0
        have f1 : wo.frozen? ⟨w.heap.size + 1 + 1, 1, none⟩ = false := HB13.out.frozen 1
        have z0 := HB13.out.cell 0
        have z1 := HB13.out.cell 1
        simp only [lowsA] at z0 z1
        go_wp2_with fail
        exact ⟨⟨1, rfl, by omega, lows_end HB7.out HB12.out HB13.out HO.out (by simp [lowsA])⟩, by simp [intOf]⟩
      · have f0 : wo.frozen? ⟨w.heap.size + 1 + 1, 2, none⟩ = false := HB13.out.frozen 2
        have f1 : wo.frozen? ⟨w.heap.size + 1 + 1, 3, none⟩ = false := HB13.out.frozen 3
        have z0 := HB13.out.cell 2
        have z1 := HB13.out.cell 3
        simp only [lowsA] at z0 z1
        go_wp2_with fail
        exact ⟨⟨2, rfl, by omega, lows_end HB7.out HB12.out HB13.out HO.out (by simp [lowsA])⟩, by simp [intOf]⟩
      · have f0 : wo.frozen? ⟨w.heap.size + 1 + 1, 4, none⟩ = false := HB13.out.frozen 4
        have f1 : wo.frozen? ⟨w.heap.size + 1 + 1, 5, none⟩ = false := HB13.out.frozen 5
        have z0 := HB13.out.cell 4
        have z1 := HB13.out.cell 5
        simp only [lowsA] at z0 z1
        go_wp2_with fail
        exact ⟨⟨3, rfl, by omega, lows_end HB7.out HB12.out HB13.out HO.out (by simp [lowsA])⟩, by simp [intOf]⟩
      · have f0 : wo.frozen? ⟨w.heap.size + 1 + 1, 6, none⟩ = false := HB13.out.frozen 6
        have f1 : wo.frozen? ⟨w.heap.size + 1 + 1, 7, none⟩ = false := HB13.out.frozen 7
        have z0 := HB13.out.cell 6
        have z1 := HB13.out.cell 7
        simp only [lowsA] at z0 z1
        go_wp2_with fail
        exact ⟨⟨4, rfl, by omega, lows_end HB7.out HB12.out HB13.out HO.out (by simp [lowsA])⟩, by simp [intOf]⟩
    · have hi4 : i = 4 := by omega
      rw [hi4] at hB13
      have HO := Lib.hid hO
      have HB7 := Lib.hid hB7
      have HB13 := Lib.hid hB13
      have hP4 := Prt4.start (lo := w.heap.size + 3) (h := h) (a := a) (b := b) hB12
      have HP4 := Lib.hid hP4
      clear hO hB7 hB12 hB13 hP4 hi4
      go_wp2_with fail
      go_loopw [68] (fun c wr => ∃ (j : Nat) (V : Nat → Value), c = .int .i64 j ∧ j ≤ pts.length ∧ Blk wr w.heap.size 49 #[.int .i64 a, .int .i64 b] ∧ Blk wr (w.heap.size + 1 + 1) 138 (lowsA h a b 4) ∧ Prt4 (w.heap.size + 3) (w.heap.size + 1) h a b (pts.take j) V wr ∧ Only (fun _ => False) w wr) (fun c _ => pts.length - (intOf c).toNat)
      case atStart => exact ⟨0, _, rfl, by omega, HB7.out, HB13.out, HP4.out, HO.out⟩
      case round =>
        obtain ⟨j, V, rfl, hj, hB7, hB13, hP4, hO2⟩ := hrel
        obtain ⟨w2, hw2⟩ : ∃ w2 : World, w2 = wr := ⟨_, rfl⟩
        rw [← hw2] at hB7 hB13 hP4 hO2 ⊢
        clear hw2
        by_cases hjl : j < pts.length
        · have hc := PtAt.cell (HP.out.keep0 hO2) rfl hjl
          have ht : pts.take (j + 1) = pts.take j ++ [pts.getD j (0, 0)] := by
            rw [List.take_succ_eq_append_getElem hjl, List.getD_eq_getElem?_getD, List.getElem?_eq_getElem hjl]
            rfl
          obtain ⟨p, hp⟩ : ∃ p, pts.getD j (0, 0) = p := ⟨_, rfl⟩
          rw [hp] at hc ht
          obtain ⟨c0, c1⟩ := hc
          obtain ⟨x, y⟩ := p
          simp only at c0 c1
          have a0 : w2.cell? ⟨w.heap.size, 0, none⟩ = some (.int .i64 a) := hB7.cell 0
          have a1 : w2.cell? ⟨w.heap.size, 1, none⟩ = some (.int .i64 b) := hB7.cell 1
          have hl7 := hB7.lt
          have hgs : g < w2.heap.size := World.block_lt_of_cell? w2 _ c0
          have hqx := fun W => HQ.out x y W
          have hqe : up h a x + 2 * up h b y = quad h a b (x, y) := rfl
          have hq4 := quad_lt h a b (x, y)
          unfold QuarterPost at hqx
          rw [hqe] at hqx
          obtain ⟨q, hq⟩ : ∃ q, q = quad h a b (x, y) := ⟨_, rfl⟩
          rw [← hq] at hqx hq4
          have HQX := Lib.hid hqx
          have HQE := Lib.hid hq
          have HT := Lib.hid ht
          have HB7' := Lib.hid hB7
          have HB13' := Lib.hid hB13
          have HP4' := Lib.hid hP4
          have HO2 := Lib.hid hO2
          clear hqx hqe hq ht hB7 hB13 hP4 hO2 hp
          go_wp2_with fail
          refine (HQX.out _).mono ?_
          rintro e w3 ⟨rfl, hO3⟩
          have hO3' := ((Only.refl (fun _ => False) w2).alloc (.cells #[.int .i64 x, .int .i64 y] 49)).trans hO3 (fun _ _ h => h)
          have hB17 := (Blk.new w2 49 #[.int .i64 x, .int .i64 y]).only hO3 (fun h => h)
          have hw23 := hO3'.size
          have HO3 := Lib.hid hO3'
          have HB17 := Lib.hid hB17
          have hl17 := hB17.lt
          clear hO3 hO3' hB17 c0 c1 a0 a1
          go_wp2_with fail
          have hP3 := HP4'.out.keep0 HO3.out
          have hV := arr4_get V q hq4
          have hq5 : (q : Int) < 4 := by omega
          have hS : w3.cell? ⟨w.heap.size + 1, q, none⟩ = some (V q) ∧ w3.cell? ⟨w2.heap.size, 0, none⟩ = some (.int .i64 x) ∧ w3.cell? ⟨w2.heap.size, 1, none⟩ = some (.int .i64 y) := ⟨by rw [hP3.box.cell, hV], HB17.out.cell 0, HB17.out.cell 1⟩
          have hw0 := HO2.out.size
          have HP3 := Lib.hid hP3
          have hvr := fun k hk => own_lt (HP4'.out.row q hq4) (k := k) hk
          have HVR := Lib.hid hvr
          have hl13 := HB13'.out.lt
          have h3U := HO3.out.size
          clear hvr
          generalize w2.heap.size = r at *
          have hOX := (HO3.out.alloc (.cells #[.int .i64 (a + h * up h a x), .int .i64 (b + h * up h b y)] 49)).drew
          have hB7X := HB7'.out.only hOX (fun h => h)
          have hB13X := HB13'.out.only hOX (fun h => h)
          have hP4X := HP4'.out.keep0 hOX
          have hO2X := HO2.out.trans hOX (fun _ _ h => h)
          have hB17X := (HB17.out.alloc (.cells #[.int .i64 (a + h * up h a x), .int .i64 (b + h * up h b y)] 49)).drew
          have hS2 : (w3.alloc (.cells #[.int .i64 (a + h * up h a x), .int .i64 (b + h * up h b y)] 49)).drew.cell? ⟨w.heap.size + 1, q, none⟩ = some (V q) ∧ (w3.alloc (.cells #[.int .i64 (a + h * up h a x), .int .i64 (b + h * up h b y)] 49)).drew.cell? ⟨r, 0, none⟩ = some (.int .i64 x) ∧ (w3.alloc (.cells #[.int .i64 (a + h * up h a x), .int .i64 (b + h * up h b y)] 49)).drew.cell? ⟨r, 1, none⟩ = some (.int .i64 y) := ⟨by rw [hP4X.box.cell, hV], hB17X.cell 0, hB17X.cell 1⟩
          have HS := Lib.hid hS2
          have HB7X := Lib.hid hB7X
          have HB13X := Lib.hid hB13X
          have HP4X := Lib.hid hP4X
          have HO2X := Lib.hid hO2X
          have HB17X := Lib.hid hB17X
          clear hS hP3 hS2 hOX hB7X hB13X hP4X hO2X hB17X HB17 HP3 HO3 HB7' HB13' HP4' HO2 hV hl17 hw23 hl7 hgs
          refine wp_region_plan (fun W => W.cell? ⟨w.heap.size + 1, q, none⟩ = some (V q) ∧ W.cell? ⟨r, 0, none⟩ = some (.int .i64 x) ∧ W.cell? ⟨r, 1, none⟩ = some (.int .i64 y)) (.head 0 (.head 1 (.head 2 (.head 3 (.head 4 (.one 5 (.one 6 (.one 7 .stop)))))))) [8] (by kernel_rfl) (by kernel_rfl) (fun _ _ d _ _ h => by cases d <;> exact h) HS.out ?_
          iterate 5
            refine stepP_head (v := ?_) rfl rfl ?_ ?_
            rotate_left
            · rintro W' ⟨s0, s1, s2⟩
              go_simp
              try rfl
            try simp only [Act.put, List.setIfInBounds_toArray, List.set_cons_zero, List.set_cons_succ]
          generalize World.drew (World.alloc w3 _) = U at *
          refine stepP_one rfl ?_
          go_wp2_with fail
          have hU1 := (Only.refl (fun _ => False) U).alloc (.cells #[.int .i64 x, .int .i64 y] 49)
          have hrow := (HP4X.out.row q hq4).keep0 hU1
          have hlen : (prt h a b (pts.take j) q).length < 4294967296 := by
            have h1 := prt_le h a b (pts.take j) q
            have h2 := List.length_take_le j pts
            omega
          have HROW := Lib.hid hrow
          have HLEN := Lib.hid hlen
          have HU1 := Lib.hid hU1
          clear hrow hlen
          refine ⟨⟨hU1.cell HS.out.1 (fun h => h), hU1.cell HS.out.2.1 (fun h => h), hU1.cell HS.out.2.2 (fun h => h)⟩, stepP_one rfl ?_⟩
          clear hU1
          go_wp2_with (first | (at_builtin; refine wp_pushPt _ rfl _ _ rfl (V q) (prt h a b (pts.take j) q) rfl HROW.out HLEN.out U.heap.size (x, y) rfl (Blk.new _ _ _) ?_; intro g' c' W4 hr4 hg4 hat4 hlt4) | fail)
          have hgo : Only (fun k => (V q).ownBlock = some k) U W4 := (HU1.out.mono (fun _ _ h => h.elim)).trans ((Only.refl _ _).grown hg4 (fun k e _ => e)) (fun _ _ h => h)
          have hb4 := HP4X.out.box.only hgo (own_blk_ne (HP4X.out.row q hq4) HP4X.out.box (by decide))
          have hr17 := HB17X.out.only hgo (fun h => by have := HVR.out r h; omega)
          have hS4 : W4.cell? ⟨w.heap.size + 1, q, none⟩ = some (V q) ∧ W4.cell? ⟨r, 0, none⟩ = some (.int .i64 x) ∧ W4.cell? ⟨r, 1, none⟩ = some (.int .i64 y) :=
            ⟨by rw [hb4.cell, arr4_get V q hq4], hr17.cell 0, hr17.cell 1⟩
          have f4 : W4.frozen? ⟨w.heap.size + 1, q, none⟩ = false := hb4.frozen q
          have HS4 := Lib.hid hS4
          have HGO := Lib.hid hgo
          have HG4 := Lib.hid hg4
          have HR4 := Lib.hid hr4
          have HAT := Lib.hid hat4
          have hl12 := hb4.lt
          clear hS4 hgo hg4 hr4 hat4 hb4 hr17
          refine ⟨HS4.out, stepP_one rfl ?_⟩
          go_wp2_with fail
          refine ⟨HS4.out, stepP_stop ?_⟩
          simp only [pick]
          have s4 := HS4.out.1
          go_wp2_with fail
          go_roundw
          case rel =>
            have hnw := HP4X.out.new q hq4
            have hsz : w.heap.size + 3 ≤ U.heap.size := by have := HB13X.out.lt; omega
            have hps := HP4X.out.push HQE.out.symm HU1.out (by have := HU1.out.size; omega) HG4.out HR4.out HAT.out
            rw [← HT.out] at hps
            have os := Only.set1 W4 (w.heap.size + 1) q (.slice (some ⟨g', 0, none⟩) ((prt (↑h) a b (List.take j pts) q).length + 1) c')
            refine ⟨j + 1, _, by go_num, hjl, (HB7X.out.only HGO.out (fun hk => by have := hnw _ hk; omega)).only os (fun e => by omega), (HB13X.out.only HGO.out (own_blk_ne (HP4X.out.row q hq4) HB13X.out (by decide))).only os (fun e => by omega), hps, (HO2X.out.trans HGO.out (fun k hk hs => by have := hnw _ hs; omega)).trans os (fun k hk e => by omega)⟩
          case measure => simp [intOf]; omega
        · obtain rfl : j = pts.length := by omega
          rw [List.take_length] at hP4
          rw [HH.out] at hP4 hB13
          have hP4w : Prt4 w.heap.size (w.heap.size + 1) (2 ^ l : Nat) a b pts V w2 := ⟨hP4.box, hP4.row, fun j hj k hk => by have := hP4.new j hj k hk; omega, hP4.ap⟩
          have hK0 : Kids A w mb n ks f l a b pts (w.heap.size + 1) (w.heap.size + 1 + 1) w2.heap.size V 0 A 0 0 0 0 (w2.alloc (.cells #[.int .u32 0, .int .u32 0, .int .u32 0, .int .u32 0] 91)) :=
            ⟨Evo.refl HA.out HI.out HW.out HE.out (hO2.alloc _), HM.out.keep (hO2.alloc _) (fun h => h), hB13.alloc _, hP4w.keep0 ((Only.refl _ _).alloc _), Blk.new _ _ _, fun j hj => by omega, hO2.size⟩
          have HK0 := Lib.hid hK0
          have hsz := hO2.size
          obtain ⟨c20, hc20⟩ : ∃ c, c = w2.heap.size := ⟨_, rfl⟩
          clear hK0 hP4w hP4 hB13 hB7 hO2 hw1 hj hjl
          have hn1 : ¬ ((pts.length : Int) < (pts.length : Int)) := by omega
          go_wp2_with fail
          simp only [← hc20] at HK0 ⊢
          clear hc20 hn1
          go_loopw [88] (fun c wr => ∃ (i : Nat) (B : Ars) (z0 z1 z2 z3 : Nat), c = .int .i64 i ∧ i ≤ 4 ∧ Kids A w mb n ks f l a b pts (w.heap.size + 1) (w.heap.size + 1 + 1) c20 V i B z0 z1 z2 z3 wr) (fun c _ => 4 - (intOf c).toNat)
          case atStart => exact ⟨0, A, 0, 0, 0, 0, rfl, by omega, HK0.out⟩
          case round =>
            obtain ⟨i', B, z0, z1, z2, z3, rfl, hi', hK⟩ := hrel
            obtain ⟨w3, hw3⟩ : ∃ w3 : World, w3 = wr := ⟨_, rfl⟩
            rw [← hw3] at hK ⊢
            clear hw3
            have hbn := budN_le l (2 ^ l : Nat) a b pts hl hpos
            by_cases hlt4 : i' < 4
            · have hlt5 : (i' : Int) < 4 := by omega
              have hp4 := hK.evo.p
              have hpart := HB.out.part hl (i' % 2) (i' / 2) (by omega) (by omega)
              rw [show i' % 2 + 2 * (i' / 2) = i' from by omega] at hpart
              have hlen := hK.evo.len
              have hmost := hK.evo.most
              have hb1 := hbn (i' + 1) (by omega)
              simp only [budN] at hb1
              have hcal := fun W (h0 : Only (fun _ => False) w3 W) => HIH.out mb n ks f B _ _ (V i') (prt (2 ^ l : Nat) a b pts i') W (hK.evo.at_.keep h0 (fun _ _ h => h)) hK.evo.inv hK.evo.wf hK.evo.em (hK.map.keep h0 (fun h => h)) ((hK.parts.row i' hlt4).keep0 h0) hpart
                (by have := HR.out; omega) (by have := HN.out; omega) (Nat.lt_of_le_of_lt (prt_le _ _ _ _ _) hpl)
              rw [hp4] at hcal
              obtain ⟨g0, g1⟩ := lowsA_get (2 ^ l : Nat) a b i' hlt4
              obtain ⟨xa, hxa⟩ : ∃ xa, xa = a + ((2 ^ l : Nat) : Int) * (i' % 2 : Nat) := ⟨_, rfl⟩
              obtain ⟨xb, hxb⟩ : ∃ xb, xb = b + ((2 ^ l : Nat) : Int) * (i' / 2 : Nat) := ⟨_, rfl⟩
              rw [← hxa] at hcal g0
              rw [← hxb] at hcal g1
              have hwl : IntKind.i64.wrap ((l : Int) + 1 - 1) = (l : Int) := by rw [IntWalk.i64_in _ (by omega)]; omega
              have hS : w3.drew.cell? ⟨w.heap.size + 1 + 1, i' * 2, none⟩ = some (.int .i64 xa) ∧ w3.drew.cell? ⟨w.heap.size + 1 + 1, i' * 2 + 1, none⟩ = some (.int .i64 xb) ∧ w3.drew.cell? ⟨w.heap.size + 1, i', none⟩ = some (V i') :=
                ⟨(hK.lows.drew.cell _).trans g0, (hK.lows.drew.cell _).trans g1, (hK.parts.box.drew.cell _).trans (arr4_get V i' hlt4)⟩
              have HS := Lib.hid hS
              have HCAL := Lib.hid hcal
              have HK := Lib.hid hK
              have HXA := Lib.hid hxa
              have HXB := Lib.hid hxb
              have HWL := Lib.hid hwl
              clear hS hcal hK hxa hxb g0 g1 hpart hp4 hlen hmost hb1 hbn hwl
              go_wp2_with fail
              have hwl := HWL.out
              refine wp_region_plan (fun W => W.cell? ⟨w.heap.size + 1 + 1, i' * 2, none⟩ = some (.int .i64 xa) ∧ W.cell? ⟨w.heap.size + 1 + 1, i' * 2 + 1, none⟩ = some (.int .i64 xb) ∧ W.cell? ⟨w.heap.size + 1, i', none⟩ = some (V i')) (.head 0 (.head 1 (.head 2 (.head 3 (.head 4 (.head 5 (.head 6 (.head 7 (.head 8 (.head 9 (.head 10 (.one 11 (.head 12 (.head 13 (.head 14 (.one 15 (.one 16 (.one 17 .stop)))))))))))))))))) [] (by kernel_rfl) (by kernel_rfl) (fun _ _ d _ _ h => by cases d <;> exact h) HS.out ?_
              iterate 11
                refine stepP_head (v := ?_) rfl rfl ?_ ?_
                rotate_left
                · rintro W' ⟨s0, s1, s2⟩
                  go_simp
                  try simp only [hwl]
                  try rfl
                try simp only [Act.put, List.setIfInBounds_toArray, List.set_cons_zero, List.set_cons_succ]
              have hU0 : Only (fun _ => False) w3 w3.drew := (Only.refl _ _).drew
              generalize w3.drew = U at *
              refine stepP_one rfl ?_
              go_wp2_with fail
              refine (HCAL.out U hU0).mono ?_
              rintro e W2 ⟨nd, C, rfl, hEv, hBo, h32⟩
              rw [HXA.out, HXB.out] at hBo
              obtain ⟨u0, u1, u2, u3, e1, e2⟩ := box_set z0 z1 z2 z3 i' nd hlt4
              have hKn := HK.out.next hlt4 hl hU0 hEv hBo e1 e2
              have hBU := HK.out.evo.at_.keep hU0 (fun _ _ h => h)
              have h13 := (HK.out.lows.only hU0 (fun h => h)).only hEv.only (hBU.no_cells (HK.out.lows.only hU0 (fun h => h)) (by decide) (by decide) (by decide))
              have h12 := (HK.out.parts.box.only hU0 (fun h => h)).only hEv.only (hBU.no_cells (HK.out.parts.box.only hU0 (fun h => h)) (by decide) (by decide) (by decide))
              have h20 := (HK.out.box.only hU0 (fun h => h)).only hEv.only (hBU.not_box (HK.out.box.only hU0 (fun h => h)))
              obtain ⟨g0, g1⟩ := lowsA_get (2 ^ l : Nat) a b i' hlt4
              rw [← HXA.out] at g0
              rw [← HXB.out] at g1
              have hS2 : W2.cell? ⟨w.heap.size + 1 + 1, i' * 2, none⟩ = some (.int .i64 xa) ∧ W2.cell? ⟨w.heap.size + 1 + 1, i' * 2 + 1, none⟩ = some (.int .i64 xb) ∧ W2.cell? ⟨w.heap.size + 1, i', none⟩ = some (V i') :=
                ⟨(h13.cell _).trans g0, (h13.cell _).trans g1, (h12.cell _).trans (arr4_get V i' hlt4)⟩
              have hS3 : (W2.setCell ⟨c20, i', none⟩ (.int .u32 nd)).cell? ⟨w.heap.size + 1 + 1, i' * 2, none⟩ = some (.int .i64 xa) ∧ (W2.setCell ⟨c20, i', none⟩ (.int .u32 nd)).cell? ⟨w.heap.size + 1 + 1, i' * 2 + 1, none⟩ = some (.int .i64 xb) ∧ (W2.setCell ⟨c20, i', none⟩ (.int .u32 nd)).cell? ⟨w.heap.size + 1, i', none⟩ = some (V i') :=
                ⟨(hKn.lows.cell _).trans g0, (hKn.lows.cell _).trans g1, (hKn.parts.box.cell _).trans (arr4_get V i' hlt4)⟩
              have d20 : W2.cell? ⟨c20, i', none⟩ = some (.int .u32 (four z0 z1 z2 z3 i' : Nat)) := (h20.cell _).trans (box_get _ _ _ _ _ hlt4)
              have f20 : W2.frozen? ⟨c20, i', none⟩ = false := h20.frozen i'
              have HS2 := Lib.hid hS2
              have HS3 := Lib.hid hS3
              have HKN := Lib.hid hKn
              clear hKn hBU h13 h12 h20 g0 g1 hS2 hS3 hEv hBo e1 e2 hU0
              go_wp2_with fail
              refine ⟨HS2.out, ?_⟩
              iterate 3
                refine stepP_head (v := ?_) rfl rfl ?_ ?_
                rotate_left
                · intro W' _
                  go_simp
                  try rfl
                try simp only [Act.put, List.setIfInBounds_toArray, List.set_cons_zero, List.set_cons_succ]
              refine stepP_one rfl ?_
              go_wp2_with fail
              refine ⟨HS2.out, stepP_one rfl ?_⟩
              go_wp2_with fail
              refine ⟨HS3.out, stepP_one rfl ?_⟩
              go_wp2_with fail
              refine ⟨HS3.out, stepP_stop ?_⟩
              simp only [pick]
              go_wp2_with fail
              go_roundw
              case rel => exact ⟨i' + 1, C, u0, u1, u2, u3, by go_num, hlt4, HKN.out⟩
              case measure => simp [intOf]; omega
            · obtain rfl : i' = 4 := by omega
              have hbn4 := hbn 4 (by omega)
              have hlen := hK.evo.len
              have hmost := hK.evo.most
              have hp4 := hK.evo.p
              have o0 := hK.out 0 (by omega)
              have o1 := hK.out 1 (by omega)
              have o2 := hK.out 2 (by omega)
              have o3 := hK.out 3 (by omega)
              rw [four0] at o0
              rw [four1] at o1
              rw [four2] at o2
              rw [four3] at o3
              have q0 : w3.cell? ⟨c20, 0, none⟩ = some (.int .u32 z0) := hK.box.cell 0
              have q1 : w3.cell? ⟨c20, 1, none⟩ = some (.int .u32 z1) := hK.box.cell 1
              have q2 : w3.cell? ⟨c20, 2, none⟩ = some (.int .u32 z2) := hK.box.cell 2
              have q3 : w3.cell? ⟨c20, 3, none⟩ = some (.int .u32 z3) := hK.box.cell 3
              have hrm : (B.ns.length : Int) + 1 < B.most ∧ B.ns.length < 1073741824 := by have := HR.out; have := HN.out; exact ⟨by omega, by omega⟩
              have hjn := Join_any B z0 z1 z2 z3 w3 hK.evo.at_ hK.evo.inv hrm.2 (by have := o0.lt; omega) (by have := o1.lt; omega) (by have := o2.lt; omega) (by have := o3.lt; omega)
              rw [hp4] at hjn
              have hok : ∀ j, kidOk B.ns z0 (four z0 z1 z2 z3 j) := four_all (fun i hi => match i, hi with
                | 0, _ => ⟨o0.lt, rfl⟩
                | 1, _ => ⟨o1.lt, o1.lv.trans o0.lv.symm⟩
                | 2, _ => ⟨o2.lt, o2.lv.trans o0.lv.symm⟩
                | 3, _ => ⟨o3.lt, o3.lv.trans o0.lv.symm⟩)
              have hend : ∀ (e : Ending) (w' : World), JoinPost B w3 z0 z1 z2 z3 e w' → ∃ out D, e = .returned (.tuple #[.int .u32 (out : Nat), .nilIface]) ∧ Evo A w (bud (l + 1) pts.length) D w' ∧ BOut ks f D.ns (l + 1) a b out ∧ out < 4294967296 := fun e w' hj => by
                obtain ⟨out, D, he, hEv, ho, hlv, hk, h32, _, _⟩ := Evo.join hK.evo.em hK.evo.wf (by omega) hrm.2 hok (by rw [o0.lv]; exact hl') hj
                refine ⟨out, D, he, (hK.evo.trans hEv).le hbn4, ?_, h32⟩
                refine BOut.join hK.evo.wf hEv.pre hl (fun x y hx hy => ?_) ho (by rw [hlv, o0.lv]) hk
                have := hK.out (x + 2 * y) (by omega)
                rwa [show (x + 2 * y) % 2 = x from by omega, show (x + 2 * y) / 2 = y from by omega] at this
              have HEND := Lib.hid hend
              have HJN := Lib.hid hjn
              clear hend hjn hok hrm o0 o1 o2 o3 hp4 hmost hlen hbn4 hbn hK
              go_wp2_with fail
              refine (HJN.out).mono ?_
              rintro e w4 hj
              obtain ⟨out, D, rfl, hEv, hBo, h32⟩ := HEND.out _ _ hj
              have HEV := Lib.hid hEv
              have HBO := Lib.hid hBo
              clear hj hEv hBo
              go_wp2_with fail
              go_ret2
              exact ⟨out, D, rfl, HEV.out, HBO.out, h32⟩
end Go.Proofs.Ytblhbfniomlfkaa
