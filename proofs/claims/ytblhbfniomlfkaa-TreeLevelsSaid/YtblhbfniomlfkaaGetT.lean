/- tree.Get: does a cell live? -/
import Derived.Test.YtblhbfniomlfkaaBuildR
import Derived.Test.YtblhbfniomlfkaaAlike
namespace Go.Proofs.Ytblhbfniomlfkaa
open Go.RowKit

theorem and1 (x : Nat) (h : x < 4294967296) : bits .and .i64 (x : Int) 1 = ((x % 2 : Nat) : Int) := by
  have e : (BitVec.ofInt 64 (x : Int) &&& BitVec.ofInt 64 1).toNat = x % 2 := by
    rw [BitVec.toNat_and]
    have h1 : (BitVec.ofInt 64 (x : Int)).toNat = x := by rw [BitVec.toNat_ofInt]; omega
    have h2 : (BitVec.ofInt 64 1).toNat = 2 ^ 1 - 1 := by rfl
    rw [h1, h2, Nat.and_two_pow_sub_one_eq_mod]
  show IntKind.i64.wrap ((BitVec.ofInt 64 (x : Int) &&& BitVec.ofInt 64 1).toNat : Int) = _
  rw [e]
  exact IntWalk.i64_in _ (by omega)

/-- How far the walk down has come: level k, node r, least point (la, lb). -/
structure Down (ns : List Nd) (lev root : Nat) (ca cb : Int) (k r : Nat) (la lb : Int) : Prop where
  lo : 2 ≤ k
  hi : k ≤ lev
  lt : r < ns.length
  lv : lvN ns r = k
  pa : ca - la = (((ca + halfN lev).toNat % 2 ^ k : Nat) : Int)
  pb : cb - lb = (((cb + halfN lev).toNat % 2 ^ k : Nat) : Int)
  den : den ns (lev - 2) root ((ca + halfN lev).toNat / 4) ((cb + halfN lev).toNat / 4) = den ns (k - 2) r ((ca + halfN lev).toNat / 4) ((cb + halfN lev).toNat / 4)

theorem up_bit {X k : Nat} {c l : Int} (h : c - l = ((X % 2 ^ (k + 1) : Nat) : Int)) : up (2 ^ k : Nat) l c = X / 2 ^ k % 2 ∧ c - (l + (2 ^ k : Nat) * (up (2 ^ k : Nat) l c : Nat)) = ((X % 2 ^ k : Nat) : Int) := by
  have hp : 0 < 2 ^ k := Nat.pow_pos (by omega)
  have e := Nat.mod_mul (x := X) (a := 2 ^ k) (b := 2)
  rw [← Nat.pow_succ] at e
  rw [e] at h
  have hb : X / 2 ^ k % 2 = 0 ∨ X / 2 ^ k % 2 = 1 := by omega
  have hl := Nat.mod_lt X hp
  generalize X % 2 ^ k = y at *
  generalize X / 2 ^ k % 2 = b at *
  generalize 2 ^ k = n at *
  unfold up
  rcases hb with rfl | rfl
  · rw [if_neg (by omega)]
    exact ⟨rfl, by omega⟩
  · rw [if_pos (by omega)]
    exact ⟨rfl, by omega⟩

theorem Down.start {ns : List Nd} {lev root : Nat} {ca cb : Int} (hlt : root < ns.length) (hlv : lvN ns root = lev) (h3 : 3 ≤ lev) (h44 : lev ≤ 44) (hin : insP lev ca cb) : Down ns lev root ca cb lev root (-(halfN lev : Int)) (-(halfN lev : Int)) := by
  obtain ⟨q1, q2, q3⟩ := half_four h3 h44
  unfold insP at hin
  have e1 : (ca + halfN lev).toNat < 2 ^ lev := by omega
  have e2 : (cb + halfN lev).toNat < 2 ^ lev := by omega
  exact ⟨by omega, Nat.le_refl _, hlt, hlv, by rw [Nat.mod_eq_of_lt e1]; omega, by rw [Nat.mod_eq_of_lt e2]; omega, rfl⟩

theorem Down.next {ns : List Nd} (hW : Wf ns) {lev root : Nat} {ca cb : Int} {k r : Nat} {la lb : Int} (h : Down ns lev root ca cb (k + 1) r la lb) (hk : 2 ≤ k) :
    Down ns lev root ca cb k (kidN ns r (up (2 ^ k : Nat) la ca + 2 * up (2 ^ k : Nat) lb cb)) (la + (2 ^ k : Nat) * (up (2 ^ k : Nat) la ca : Nat)) (lb + (2 ^ k : Nat) * (up (2 ^ k : Nat) lb cb : Nat)) := by
  obtain ⟨a1, a2⟩ := up_bit h.pa
  obtain ⟨b1, b2⟩ := up_bit h.pb
  obtain ⟨k1, k2⟩ := (hW.join r h.lt (by have := h.lv; omega)).2.1 (up (2 ^ k : Nat) la ca + 2 * up (2 ^ k : Nat) lb cb)
  refine ⟨hk, by have := h.hi; omega, by have := h.lt; omega, by have := h.lv; omega, a2, b2, ?_⟩
  rw [h.den]
  obtain ⟨m, rfl⟩ : ∃ m, k = m + 2 := ⟨k - 2, by omega⟩
  have em : m + 2 + 1 - 2 = m + 1 := by omega
  have em2 : m + 2 - 2 = m := by omega
  rw [em, em2, a1, b1]
  have sh : ∀ X : Nat, X / 4 / 2 ^ m % 2 = X / 2 ^ (m + 2) % 2 := fun X => by
    rw [Nat.div_div_eq_div_mul, show 4 * 2 ^ m = 2 ^ (m + 2) from by rw [Nat.pow_add]; omega]
  show Go.Proofs.Ytblhbfniomlfkaa.den ns m (kidN ns r _) _ _ = _
  rw [sh, sh]

theorem Down.low {ns : List Nd} {lev root : Nat} {ca cb : Int} {r : Nat} {la lb : Int} (h : Down ns lev root ca cb 2 r la lb) (h3 : 3 ≤ lev) (h44 : lev ≤ 44) (hin : insP lev ca cb) :
    ca - la = (((ca % 4).toNat : Nat) : Int) ∧ cb - lb = (((cb % 4).toNat : Nat) : Int) := by
  obtain ⟨q1, _, _⟩ := half_four h3 h44
  unfold insP at hin
  have h1 := h.pa
  have h2 := h.pb
  have e : (2 ^ 2 : Nat) = 4 := rfl
  rw [e] at h1 h2
  omega

/-- Where a cell lies: the leaf, and the bit. -/
def lookDen (ns : List Nd) (lev root : Nat) (ca cb : Int) (h : Nat) : Bool := (den ns (lev - 2) root ((ca + halfN lev).toNat / 4) ((cb + halfN lev).toNat / 4)).testBit (2 * plc ca cb + h)

set_option maxRecDepth 100000 in
set_option maxHeartbeats 2000000 in
theorem Get_any (A : Ars) (lev root : Nat) (ca cb : Int) (ch : Nat) (w : World) (hA : A.At w) (hW : Wf A.ns) (hI : A.Inv) (hN : A.ns.length < 1073741824) (hlt : root < A.ns.length) (hlv : lvN A.ns root = lev) (h3 : 3 ≤ lev) (h44 : lev ≤ 44) (hin : insP lev ca cb) (hch : ch < 2) :
    Calls Try.prog 49 #[.pointer (some ⟨A.p, 0, none⟩), .int .u32 root, .agg #[.int .i64 ca, .int .i64 cb, .int .i64 ch]] w fun e w' => e = .returned (.bool (lookDen A.ns lev root ca cb ch)) ∧ Only (fun _ => False) w w' := by
  have hlev := fun W (h : A.At W) => Level_any A root W h (by omega)
  simp only [Ars.lvI_in hlt, hlv] at hlev
  have hins := fun W => tInside_any lev ca cb W (by omega)
  rw [show insB lev ca cb = true from (insB_iff _ _ _).2 hin] at hins
  have hor := fun W => origin_any lev W (by unfold I64; omega)
  have hst := Down.start hlt hlv h3 h44 hin
  have HLEV := Lib.hid hlev
  have HINS := Lib.hid hins
  have HOR := Lib.hid hor
  have HST := Lib.hid hst
  have HA := Lib.hid hA
  have HW := Lib.hid hW
  have HI := Lib.hid hI
  have HIN := Lib.hid hin
  clear hlev hins hor hst hA hW hI hin hlv
  have t1 : ((lev : Int) < 3) = False := by simp; omega
  have t2 : ((ch : Int) < 0) = False := by simp
  have t3 : ((1 : Int) < (ch : Int)) = False := by simp; omega
  go_enter Try.func49, Try.ntmps49
  go_wp2_with fail
  refine (HLEV.out _ (HA.out.alloc _)).mono ?_
  rintro e w1 ⟨rfl, rfl⟩
  go_wp2_with fail
  refine (HINS.out _).mono ?_
  rintro e w2 ⟨rfl, hO2⟩
  have hB2 := (Blk.new w 72 #[.int .i64 ca, .int .i64 cb, .int .i64 ch]).only hO2 (fun h => h)
  have c2 : w2.cell? ⟨w.heap.size, 2, none⟩ = some (.int .i64 ch) := hB2.cell 2
  have hO2' := ((Only.refl (fun _ => False) w).alloc (.cells #[.int .i64 ca, .int .i64 cb, .int .i64 ch] 72)).trans hO2 (fun _ _ h => h)
  have HB2 := Lib.hid hB2
  have HO2 := Lib.hid hO2'
  clear hB2 hO2 hO2'
  go_wp2_with fail
  refine (HOR.out _).mono ?_
  rintro e w3 ⟨rfl, hO3⟩
  have HB3 := Lib.hid (HB2.out.only hO3 (fun h => h))
  have HO3 := Lib.hid (HO2.out.trans hO3 (fun _ _ h => h))
  clear hO3 c2
  go_wp2_with fail
  obtain ⟨b8, hb8⟩ : ∃ b, b = w3.heap.size := ⟨_, rfl⟩
  have hd0 : ∃ (la lb : Int), Down A.ns lev root ca cb lev root la lb ∧ Blk (w3.alloc (.cells #[.int .i64 (-(halfN lev : Int)), .int .i64 (-(halfN lev : Int))] 49)) b8 49 #[.int .i64 la, .int .i64 lb] := ⟨_, _, HST.out, by rw [hb8]; exact Blk.new _ _ _⟩
  have hB4 := HB3.out.alloc (.cells #[.int .i64 (-(halfN lev : Int)), .int .i64 (-(halfN lev : Int))] 49)
  have hO4 := HO3.out.alloc (.cells #[.int .i64 (-(halfN lev : Int)), .int .i64 (-(halfN lev : Int))] 49)
  have hb8' : w.heap.size < b8 := by rw [hb8]; exact HB3.out.lt
  have HD0 := Lib.hid hd0
  have HB4 := Lib.hid hB4
  have HO4 := Lib.hid hO4
  simp only [← hb8]
  clear hd0 hB4 hO4 hb8
  go_loopw [1, 7] (fun r c wr => ∃ (k rk : Nat) (la lb : Int), c = .int .i64 k ∧ r = .int .u32 rk ∧ Down A.ns lev root ca cb k rk la lb ∧ Blk wr b8 49 #[.int .i64 la, .int .i64 lb] ∧ Blk wr w.heap.size 72 #[.int .i64 ca, .int .i64 cb, .int .i64 ch] ∧ Only (fun _ => False) w wr) (fun _ c _ => (intOf c).toNat)
  case atStart =>
    obtain ⟨la, lb, h1, h2⟩ := HD0.out
    exact ⟨lev, root, la, lb, rfl, rfl, h1, h2, HB4.out, HO4.out⟩
  case round =>
    obtain ⟨k, rk, la, lb, rfl, rfl, hD, hB8, hB5, hO⟩ := hrel
    obtain ⟨wo, hwo⟩ : ∃ wo : World, wo = wr := ⟨_, rfl⟩
    rw [← hwo] at hB8 hB5 hO ⊢
    clear hwo
    have hk2 := hD.lo
    have a0 : wo.cell? ⟨w.heap.size, 0, none⟩ = some (.int .i64 ca) := hB5.cell 0
    have a1 : wo.cell? ⟨w.heap.size, 1, none⟩ = some (.int .i64 cb) := hB5.cell 1
    have a2 : wo.cell? ⟨w.heap.size, 2, none⟩ = some (.int .i64 ch) := hB5.cell 2
    have e0 : wo.cell? ⟨b8, 0, none⟩ = some (.int .i64 la) := hB8.cell 0
    have e1 : wo.cell? ⟨b8, 1, none⟩ = some (.int .i64 lb) := hB8.cell 1
    have hl8 := hB8.lt
    have HD := Lib.hid hD
    have HB8 := Lib.hid hB8
    have HB5 := Lib.hid hB5
    have HO := Lib.hid hO
    clear hD hB8 hB5 hO
    by_cases hgt : 2 < k
    · obtain ⟨m, rfl⟩ : ∃ m, k = m + 1 := ⟨k - 1, by omega⟩
      have hm44 : m < 44 := by have := HD.out.hi; omega
      have hmw : IntKind.i64.wrap (((m + 1 : Nat) : Int) - 1) = (m : Nat) := by rw [IntWalk.i64_in _ (by constructor <;> omega)]; omega
      have hq : ∀ W, Calls Try.prog 69 #[.int .i64 (m + 1 : Nat), .agg #[.int .i64 la, .int .i64 lb], .agg #[.int .i64 ca, .int .i64 cb]] W (QuarterPost (2 ^ m : Nat) la lb ca cb W) := fun W => by
        have hle := halfN_le lev
        have hin := HIN.out
        unfold insP at hin
        have p1 := HD.out.pa
        have p2 := HD.out.pb
        have m1 := Nat.mod_le (ca + halfN lev).toNat (2 ^ (m + 1))
        have m2 := Nat.mod_le (cb + halfN lev).toNat (2 ^ (m + 1))
        have hkl := HD.out.hi
        generalize (ca + halfN lev).toNat % 2 ^ (m + 1) = x1 at p1 m1
        generalize (cb + halfN lev).toNat % 2 ^ (m + 1) = x2 at p2 m2
        have := quarter_any (m + 1) la lb ca cb W (by omega) (by omega) (by omega) (by omega)
        rwa [Nat.add_sub_cancel] at this
      have hnx := HD.out.next HW.out (by omega)
      have hu := quad_lt (2 ^ m : Nat) la lb (ca, cb)
      obtain ⟨q, hqe⟩ : ∃ q, q = up (2 ^ m : Nat) la ca + 2 * up (2 ^ m : Nat) lb cb := ⟨_, rfl⟩
      have hq4 : q < 4 := by rw [hqe]; exact hu
      unfold QuarterPost at hq
      rw [← hqe] at hq hnx
      obtain ⟨la', hla⟩ : ∃ x, x = la + ((2 ^ m : Nat) : Int) * (up (2 ^ m : Nat) la ca : Nat) := ⟨_, rfl⟩
      obtain ⟨lb', hlb⟩ : ∃ x, x = lb + ((2 ^ m : Nat) : Int) * (up (2 ^ m : Nat) lb cb : Nat) := ⟨_, rfl⟩
      rw [← hla] at hq hnx
      rw [← hlb] at hq hnx
      have hkl : rk < A.ns.length := HD.out.lt
      obtain ⟨x0, x1, x2, x3, hkx, hkr⟩ := kids_run A rk hkl (by omega)
      rw [hkx q] at hnx
      have hidx := fun W => idx4 x0 x1 x2 x3 q hq4 W
      have HQ := Lib.hid hq
      have HNX := Lib.hid hnx
      have HKR := Lib.hid hkr
      clear hq hnx hu hqe hla hlb hkx hkr
      have hg2 : (2 : Int) < ((m + 1 : Nat) : Int) := by omega
      have hq5 : (q : Int) < 4 := by omega
      go_wp2_with fail
      refine (HQ.out _).mono ?_
      rintro e w5 ⟨rfl, hO5⟩
      have hB8' := HB8.out.only hO5 (fun h => h)
      have f0 : w5.frozen? ⟨b8, 0, none⟩ = false := hB8'.frozen 0
      have f1 : w5.frozen? ⟨b8, 1, none⟩ = false := hB8'.frozen 1
      have g0 : w5.cell? ⟨b8, 0, none⟩ = some (.int .i64 la) := hB8'.cell 0
      have g1 : w5.cell? ⟨b8, 1, none⟩ = some (.int .i64 lb) := hB8'.cell 1
      have HB8' := Lib.hid hB8'
      have HO5 := Lib.hid hO5
      clear hB8' hO5 a0 a1 a2 e0 e1
      go_wp2_with fail
      have hB8n := (HB8'.out.set_ 0 (.int .i64 la')).set_ 1 (.int .i64 lb')
      have hB5n := ((HB5.out.only HO5.out (fun h => h)).far (p := ⟨b8, 0, none⟩) (by simp; omega) (.int .i64 la')).far (p := ⟨b8, 1, none⟩) (by simp; omega) (.int .i64 lb')
      have hOn := (((HO.out.trans HO5.out (fun _ _ h => h)).setCell (p := ⟨b8, 0, none⟩) (fun h => by simp only at h; omega) (.int .i64 la'))).setCell (p := ⟨b8, 1, none⟩) (fun h => by simp only at h; omega) (.int .i64 lb')
      generalize World.setCell (World.setCell w5 _ _) _ _ = V at hB8n hB5n hOn ⊢
      refine (HKR.out V (HA.out.keep hOn (fun _ _ h => h))).mono ?_
      rintro e w6 ⟨rfl, hO6⟩
      have HB8n := Lib.hid (hB8n.only hO6 (fun h => h))
      have HB5n := Lib.hid (hB5n.only hO6 (fun h => h))
      have HOn := Lib.hid (hOn.trans hO6 (fun _ _ h => h))
      clear hB8n hB5n hOn hO6
      go_wp2_with fail
      go_roundw
      case rel => exact ⟨m, _, la', lb', rfl, rfl, HNX.out, HB8n.out, HB5n.out, HOn.out⟩
      case measure => simp only [intOf, Int.toNat_natCast]; omega
    · have hk : k = 2 := by omega
      subst hk
      obtain ⟨p1, p2⟩ := HD.out.low h3 h44 HIN.out
      have hlt' := HD.out.lt
      have hlw := HD.out.lv
      have hbt := fun W hA => Bits_any A rk W hA (by omega)
      rw [Ars.bitsI_in hlt'] at hbt
      have hfit : bitsN A.ns rk < 4294967296 := (HI.out.fit rk hlt').2.1
      have hden : lookDen A.ns lev root ca cb ch = (bitsN A.ns rk).testBit (2 * plc ca cb + ch) := by unfold lookDen; rw [HD.out.den]; rfl
      have hx4 : (ca % 4).toNat < 4 := by omega
      have hy4 : (cb % 4).toNat < 4 := by omega
      have e5 : IntKind.i64.wrap (ca - la) = (((ca % 4).toNat : Nat) : Int) := by rw [p1]; exact IntWalk.i64_in _ (by omega)
      have e6 : IntKind.i64.wrap (cb - lb) = (((cb % 4).toNat : Nat) : Int) := by rw [p2]; exact IntWalk.i64_in _ (by omega)
      have hfin : ∀ c, c < 2 → decide (bits .and .i64 ((bitsN A.ns rk / 2 ^ (2 * plc ca cb) % 4 / 2 ^ c : Nat) : Int) 1 = 1) = (bitsN A.ns rk).testBit (2 * plc ca cb + c) := fun c hc => by
        have hs : bitsN A.ns rk / 2 ^ (2 * plc ca cb) % 4 / 2 ^ c ≤ 3 := Nat.le_trans (Nat.div_le_self _ _) (by omega)
        rw [and1 _ (by omega)]
        obtain ⟨b0, b1⟩ := st_bit (bitsN A.ns rk) (2 * plc ca cb)
        have hcc : c = 0 ∨ c = 1 := by omega
        rcases hcc with rfl | rfl
        · rw [Nat.add_zero, ← b0, Nat.testBit_eq_decide_div_mod_eq]
          generalize bitsN A.ns rk / 2 ^ (2 * plc ca cb) % 4 / 2 ^ 0 % 2 = z
          exact decide_eq_decide.2 (by omega)
        · rw [← b1, Nat.testBit_eq_decide_div_mod_eq]
          generalize bitsN A.ns rk / 2 ^ (2 * plc ca cb) % 4 / 2 ^ 1 % 2 = z
          exact decide_eq_decide.2 (by omega)
      have hst := fun W => leafState_any (bitsN A.ns rk) (ca % 4).toNat (cb % 4).toNat W hx4 hy4 hfit
      rw [show 2 * (4 * (cb % 4).toNat + (ca % 4).toNat) = 2 * plc ca cb from rfl] at hst
      have hs3 : bitsN A.ns rk / 2 ^ (2 * plc ca cb) % 4 < 4 := Nat.mod_lt _ (by omega)
      have HFIN := Lib.hid hfin
      have HDEN := Lib.hid hden
      generalize bitsN A.ns rk / 2 ^ (2 * plc ca cb) % 4 = st at hst hs3 HFIN
      generalize bitsN A.ns rk = f at hbt hfit hst HFIN HDEN
      generalize (ca % 4).toNat = x at e5 hst
      generalize (cb % 4).toNat = y at e6 hst
      have HAW := Lib.hid (HA.out.keep HO.out (fun _ _ h => h))
      have HBT := Lib.hid hbt
      have HST2 := Lib.hid hst
      clear hbt hst hfin hden p1 p2 hx4 hy4 hk2 hgt hlt' hlw
      have hcc : ch = 0 ∨ ch = 1 := by omega
      rcases hcc with rfl | rfl
      all_goals
        have hfin0 := HFIN.out _ hch
        simp only [Nat.pow_zero, Nat.div_one, Nat.pow_one, Int.natCast_ediv, Int.cast_ofNat_Int] at hfin0
        have hss : (IntKind.i64.wrap (st : Int)) = st := IntWalk.i64_in _ (by omega)
        go_wp2_with fail
        go_quiet (first | (go_at_call 46; exact Calls.quiet_of_same ((HBT.out _ (HAW.out.drewN _)).mono fun _ _ h => ⟨h.1, h.2.symm⟩)) | (go_at_call 52; exact Calls.quiet_of_same ((HST2.out _).mono fun _ _ h => ⟨h.1, h.2.symm⟩)))
        go_wp2_with fail
        go_ret
        exact ⟨by rw [HDEN.out, ← hfin0]; rfl, HO.out.drewN _⟩
end Go.Proofs.Ytblhbfniomlfkaa
