/- tree.Build, walked. -/
import Derived.Test.YtblhbfniomlfkaaBuildT
namespace Go.Proofs.Ytblhbfniomlfkaa
open Go.RowKit

/-- The points gathered so far. -/
structure Gath (w : World) (mb r n : Nat) (ks : List Pt) (f : Pt → Nat) (vp : Value) (done : List Pt) (cnt : Nat) (wr : World) : Prop where
  rng : PRng wr mb r n ks f done cnt
  row : PtAt wr vp done
  only : Only (fun _ => False) w wr
  new : ∀ k, vp.ownBlock = some k → w.heap.size ≤ k
  lo : w.heap.size ≤ r

theorem Gath.next {w wo w7 W W4 : World} {mb q n : Nat} {ks : List Pt} {f : Pt → Nat} {vp : Value} {done : List Pt} {cnt cnt1 g cp : Nat} {p : Pt} (hG : Gath w mb q n ks f vp done cnt wo) (hrg : PRng w7 mb q n ks f (done ++ [p]) cnt1) (ho1 : Only (fun k => k = q) wo w7) (hW : Only (fun _ => False) w7 W)
    (hg : W.grownBy W4 vp.ownBlock) (hr : PtAt W4 (.slice (some ⟨g, 0, none⟩) (done.length + 1) cp) (done ++ [p])) (hat : vp.ownBlock = some g ∨ g = W.heap.size) : Gath w mb q n ks f (.slice (some ⟨g, 0, none⟩) (done.length + 1) cp) (done ++ [p]) cnt1 W4 := by
  have ho : Only (fun k => vp.ownBlock = some k) w7 W4 := (hW.mono (fun _ _ h => h.elim)).trans ((Only.refl _ W).grown hg (fun k e _ => e)) (fun _ _ h => h)
  have hn1 := hG.rng.map.not_own hG.row
  have hn2 := hG.rng.not_own hG.row
  have hlo := hG.lo
  refine ⟨hrg.keep ho hn1 hn2, hr, (hG.only.trans ho1 (fun i hi e => by omega)).trans ho (fun i hi e => by have := hG.new i e; omega), fun k hk => ?_, hlo⟩
  have e : g = k := by simpa [Value.ownBlock] using hk
  subst e
  rcases hat with e | e
  · exact hG.new g e
  · have h1 := hG.only.size
    have h2 := ho1.size
    have h3 := hW.size
    omega

set_option maxRecDepth 100000 in
set_option maxHeartbeats 1000000 in
theorem Build_nil (A : Ars) (v : Value) (w : World) (hA : A.At w) (hI : A.Inv) (hW : Wf A.ns) (hE : Em A) (hR : ClAt w 72 v []) (hr : (A.ns.length : Int) + 45 < A.most) (hN : A.ns.length + 45 < 1073741824) : Calls Try.prog 34 #[.pointer (some ⟨A.p, 0, none⟩), v] w (BuildTop A [] w) := by
  obtain ⟨ad, cap, hv, _⟩ := own_slice hR
  have hbx := Box_any v [] w hR
  have hem := fun W (h : A.At W) => Empty_any A 3 W h hI hW hE (by omega) (by omega) hr hN
  rw [hv] at hbx ⊢
  have HBX := Lib.hid hbx
  have HA := Lib.hid hA
  have HEM := Lib.hid hem
  clear hbx hA hI hW hE hR hr hN hem hv
  go_enter Try.func34, Try.ntmps34
  go_wp2_with fail
  refine (HBX.out).mono ?_
  rintro e w1 ⟨x, bb, rfl, hO, hb, _⟩
  have hb0 := hb rfl
  subst hb0
  have HO := Lib.hid hO
  clear hO hb
  go_wp2_with fail
  have hA1 := (HA.out.keep HO.out (fun _ _ h => h)).alloc (.cells #[.int .i64 x.a, .int .i64 x.b, .int .i64 x.c, .int .i64 x.d] 52)
  refine (HEM.out _ hA1).mono ?_
  rintro e w2 ⟨nd, A', rfl, hEv, hn, hlv, hd, h32⟩
  have hev := Evo.sooner (HO.out.alloc (.cells #[.int .i64 x.a, .int .i64 x.b, .int .i64 x.c, .int .i64 x.d] 52)) hEv
  have HEV := Lib.hid hev
  have HD := Lib.hid hd
  clear hA1 hEv hev hd
  go_wp2_with fail
  go_ret2
  exact ⟨nd, A', rfl, HEV.out.le (by simp), hn, hlv, fun u v _ _ => (HD.out u v).trans rfl, h32⟩

set_option maxRecDepth 100000 in
set_option maxHeartbeats 4000000 in
theorem Build_cons (A : Ars) (v : Value) (h : Cl) (r L : List Cl) (hL : L = h :: r) (w : World) (hA : A.At w) (hI : A.Inv) (hW : Wf A.ns) (hE : Em A) (hR : ClAt w 72 v L) (hfit : ∀ c, c ∈ L → c.Fit) (h44 : All44 L) (hl : L.length ≤ 1000)
    (hr : (A.ns.length : Int) + 45 + (L.length * 5848 : Nat) < A.most) (hN : A.ns.length + 45 + L.length * 5848 < 1073741824) : Calls Try.prog 34 #[.pointer (some ⟨A.p, 0, none⟩), v] w (BuildTop A L w) := by
  obtain ⟨ad, cap, hv, _⟩ := own_slice hR
  have hbx := fun W (hW : ClAt W 72 v L) => Box_any v L W hW
  have hlv := fun W (hW : ClAt W 72 v L) => Leaves_any v L W hW hfit (by omega)
  rw [hv] at hbx hlv hR ⊢
  have HBX := Lib.hid hbx
  have HLV := Lib.hid hlv
  have HA := Lib.hid hA
  have HI := Lib.hid hI
  have HW := Lib.hid hW
  have HE := Lib.hid hE
  have HR := Lib.hid hR
  have H44 := Lib.hid h44
  have HRM := Lib.hid hr
  have HN := Lib.hid hN
  have hbox : inBox (levOf L) (bxOf h L).a (bxOf h L).b (bxOf h L).c (bxOf h L).d = true := by rw [hL]; exact lev_box h r (hL ▸ h44)
  clear hbx hlv hA hI hW hE hR h44 hr hN hfit hv
  obtain ⟨q3, q44⟩ := levOf_bd L
  obtain ⟨x, hx⟩ : ∃ x, x = bxOf h L := ⟨_, rfl⟩
  rw [← hx] at hbox
  have hlev : least (fun n => inBox n x.a x.b x.c x.d) 3 = levOf L := by rw [hx, hL]; rfl
  have htl := fun W => tLevel_any x.a x.b x.c x.d W
  rw [hlev] at htl
  unfold inBox at hbox
  rw [Bool.and_eq_true] at hbox
  have hi1 := fun W => tInside_any (levOf L) x.a x.b W (by omega)
  have hi2 := fun W => tInside_any (levOf L) x.c x.d W (by omega)
  rw [hbox.1] at hi1
  rw [hbox.2] at hi2
  have hor := fun W => origin_any (levOf L) W (by unfold I64; omega)
  have HTL := Lib.hid htl
  have HI1 := Lib.hid hi1
  have HI2 := Lib.hid hi2
  have HOR := Lib.hid hor
  have HXX := Lib.hid hx
  have HLL := Lib.hid hL
  clear hbox hlev htl hi1 hi2 hor
  obtain ⟨lev, hle⟩ : ∃ lev, lev = levOf L := ⟨_, rfl⟩
  rw [← hle] at HTL HI1 HI2 HOR q3 q44
  have HLE := Lib.hid hle
  clear hle hx hL
  go_enter Try.func34, Try.ntmps34
  go_wp2_with fail
  refine (HBX.out _ HR.out).mono ?_
  rintro e w1 ⟨x', bb, rfl, hO, _, hb⟩
  obtain ⟨hb0, hxe⟩ := hb h r HLL.out
  rw [← HXX.out] at hxe
  subst hb0 hxe
  have hBb := Blk.new w1 52 #[.int .i64 x'.a, .int .i64 x'.b, .int .i64 x'.c, .int .i64 x'.d]
  have HO := Lib.hid hO
  clear hO hb
  go_wp2_with fail
  refine (HTL.out _).mono ?_
  rintro e w2 ⟨rfl, hO2⟩
  have hB2 := hBb.only hO2 (fun h => h)
  have c0 : w2.cell? ⟨w1.heap.size, 0, none⟩ = some (.int .i64 x'.a) := hB2.cell 0
  have c1 : w2.cell? ⟨w1.heap.size, 1, none⟩ = some (.int .i64 x'.b) := hB2.cell 1
  have hO2' := (HO.out.alloc (.cells #[.int .i64 x'.a, .int .i64 x'.b, .int .i64 x'.c, .int .i64 x'.d] 52)).trans hO2 (fun _ _ h => h)
  have HO2 := Lib.hid hO2'
  have HB2 := Lib.hid hB2
  clear hO2 hO2' hB2 hBb
  go_wp2_with fail
  refine (HI1.out _).mono ?_
  rintro e w3 ⟨rfl, hO3⟩
  have hB3 := HB2.out.only hO3 (fun h => h)
  have c2 : w3.cell? ⟨w1.heap.size, 2, none⟩ = some (.int .i64 x'.c) := hB3.cell 2
  have c3 : w3.cell? ⟨w1.heap.size, 3, none⟩ = some (.int .i64 x'.d) := hB3.cell 3
  have HO3 := Lib.hid (HO2.out.trans hO3 (fun _ _ h => h))
  clear hO3 hB3 c0 c1
  go_wp2_with fail
  refine (HI2.out _).mono ?_
  rintro e w4 ⟨rfl, hO4⟩
  have HO4 := Lib.hid (HO3.out.trans hO4 (fun _ _ h => h))
  clear hO4 c2 c3
  go_wp2_with fail
  refine (HLV.out _ (HR.out.keep0 HO4.out)).mono ?_
  rintro e w5 ⟨mb, rfl, hLv⟩
  obtain ⟨ks, f, hM, hval, hks⟩ := hLv.ex
  rw [List.take_length] at hval hks
  have HO5 := Lib.hid (HO4.out.trans hLv.only (fun _ _ h => h))
  have HM := Lib.hid hM
  have HVAL := Lib.hid hval
  have HKS := Lib.hid hks
  clear hLv hM hval hks
  go_wp2_with (first | (at_range; refine wp_prange _ rfl _ rfl mb L.length ks f rfl HM.out ?_; intro w6 hrg ho6 hs6) | fail)
  go_frame
  have hG0 : Gath w mb w5.heap.size L.length ks f (.slice none 0 0) [] ks.length w6 := ⟨hrg, PtAt.nil w6, HO5.out.trans ho6 (fun _ _ h => h), fun k hk => by simp [Value.ownBlock] at hk, HO5.out.size⟩
  have HG0 := Lib.hid hG0
  have hkl : ks.length ≤ L.length := keys_len (by obtain ⟨D, hM'⟩ := HM.out; exact hM'.nodup) HKS.out
  obtain ⟨q, hq⟩ : ∃ q, q = w5.heap.size := ⟨_, rfl⟩
  rw [← hq] at HG0
  simp only [← hq]
  clear hG0 hrg ho6 hs6 hq
  go_loopw [10] (fun vp wr => ∃ (done : List Pt) (cnt : Nat), Gath w mb q L.length ks f vp done cnt wr) (fun _ wr => wr.rangeLeft mb q)
  case atStart => exact ⟨_, _, HG0.out⟩
  case round =>
    obtain ⟨done, cnt, hG⟩ := hrel
    obtain ⟨wo, hwo⟩ : ∃ wo : World, wo = wr := ⟨_, rfl⟩
    rw [← hwo] at hG ⊢
    clear hwo
    obtain ⟨ap, cp, hvp, _⟩ := own_slice hG.row
    subst hvp
    have HG := Lib.hid hG
    clear hG
    go_wp2_with (first | (at_next; refine wp_pnext _ rfl _ rfl mb q L.length ks f done cnt rfl HG.out.rng ?_ ?_) | fail)
    · intro _ hall
      have HALL := Lib.hid hall
      have hnd := HG.out.rng.nodup
      have hdl := nodup_sub done ks hnd HG.out.rng.sub
      have hbt := bud_top lev done.length q44
      have hmem : ∀ p, p ∈ done ↔ p ∈ ks := fun p => ⟨HG.out.rng.sub p, HALL.out p.1 p.2⟩
      have hin := keys_in H44.out HKS.out hmem
      rw [← HLE.out] at hin
      have hcal := fun W (h0 : Only (fun _ => False) wo W) => build_any lev (by omega) q44 mb L.length ks f A (-(halfN lev : Int)) (-(halfN lev : Int)) (.slice ap done.length cp) done W ((HA.out.keep HG.out.only (fun _ _ h => h)).keep h0 (fun _ _ h => h)) HI.out HW.out HE.out ((HG.out.rng.map).keep h0 (fun h => h)) (HG.out.row.keep0 h0) hin
        (by have := HRM.out; omega) (by have := HN.out; omega) (by omega)
      have HCAL := Lib.hid hcal
      clear hall hcal hin hmem hnd
      go_wp2_with fail
      refine (HOR.out _).mono ?_
      rintro e w8 ⟨rfl, hO8⟩
      have HO8 := Lib.hid hO8
      clear hO8
      go_wp2_with fail
      refine (HCAL.out _ HO8.out).mono ?_
      rintro e w9 ⟨nd, A', rfl, hEv, hBo, h32⟩
      have hev := (Evo.sooner (HG.out.only.trans HO8.out (fun _ _ h => h)) hEv).le (show bud lev done.length ≤ 45 + L.length * 5848 by omega)
      have HEV := Lib.hid hev
      have HBO := Lib.hid hBo
      clear hEv hev hBo
      go_wp2_with fail
      go_ret2
      refine ⟨nd, A', rfl, HEV.out, HBO.out.lt, ?_, fun u v hu hv => ?_, h32⟩
      · rw [← HLE.out]; exact HBO.out.lv
      · rw [← HLE.out] at hu hv ⊢
        rw [HBO.out.den u v hu hv, HVAL.out]
    · intro px py w7 cnt1 hp64 hpk hpd hrg1 hlt ho1 hs1 hen
      have hrow7 : PtAt w7 (.slice ap done.length cp) done := HG.out.row.keep ho1 (fun k hk e => by subst e; exact HG.out.rng.not_own HG.out.row hk)
      have hlen : done.length < 4294967296 := by
        have hn := HG.out.rng.nodup
        have := nodup_sub done ks hn HG.out.rng.sub
        omega
      have hrow8 := hrow7.keep0 (((Only.refl (fun _ => False) w7).alloc (.cells #[.int .i64 px, .int .i64 py] 49)).alloc (.cells #[.int .i64 px, .int .i64 py] 49))
      have HROW := Lib.hid hrow8
      have HLEN := Lib.hid hlen
      have HRG := Lib.hid hrg1
      have HO1 := Lib.hid ho1
      have HS1 := Lib.hid hs1
      have HLT := Lib.hid hlt
      clear hs1 hlt hrow7 hrow8 hlen hrg1 ho1 hp64 hpk hpd
      go_wp2_with (first | (at_builtin; refine wp_pushPt _ rfl _ _ rfl (.slice ap done.length cp) done rfl HROW.out HLEN.out (w7.heap.size + 1) (px, py) rfl (Blk.at (by simp)) ?_; intro g' c' W4 hr4 hg4 hat4 hlt4) | fail)
      go_roundw
      case rel => exact ⟨done ++ [(px, py)], cnt1, HG.out.next HRG.out HO1.out (((Only.refl _ w7).alloc _).alloc _) hg4 hr4 hat4⟩
      case measure =>
        have hn := HG.out.next HRG.out HO1.out (((Only.refl _ w7).alloc _).alloc _) hg4 hr4 hat4
        rw [hn.rng.left_eq, HG.out.rng.left_eq]
        exact HLT.out

theorem Build_any (A : Ars) (v : Value) (l : List Cl) (w : World) (hA : A.At w) (hI : A.Inv) (hW : Wf A.ns) (hE : Em A) (hR : ClAt w 72 v l) (hfit : ∀ c, c ∈ l → c.Fit) (h44 : All44 l) (hl : l.length ≤ 1000)
    (hr : (A.ns.length : Int) + 45 + (l.length * 5848 : Nat) < A.most) (hN : A.ns.length + 45 + l.length * 5848 < 1073741824) : Calls Try.prog 34 #[.pointer (some ⟨A.p, 0, none⟩), v] w (BuildTop A l w) := by
  cases l with
  | nil => exact Build_nil A v w hA hI hW hE hR (by simp at hr; omega) (by simp at hN; omega)
  | cons h r => exact Build_cons A v h r (h :: r) rfl w hA hI hW hE hR hfit h44 hl hr hN
end Go.Proofs.Ytblhbfniomlfkaa
