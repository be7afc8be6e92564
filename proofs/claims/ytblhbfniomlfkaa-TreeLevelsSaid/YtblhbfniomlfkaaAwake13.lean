/- honeycomblaw13.awake. -/
import Derived.Test.YtblhbfniomlfkaaMake
namespace Go.Proofs.Ytblhbfniomlfkaa
open Go.RowKit

theorem half44 : halfN 44 = 8796093022208 := halfN_hi (by omega)
theorem half3 : halfN 3 = 4 := by rw [halfN_mid (by omega) (by omega)]; rfl
theorem half4 : halfN 4 = 8 := by rw [halfN_mid (by omega) (by omega)]; rfl

def la13 : List Cl := [⟨3, 0, 0⟩, ⟨-4, 3, 0⟩]
def lb13 : List Cl := [⟨4, 0, 0⟩]
theorem la_fit : ∀ c, c ∈ la13 → c.Fit := fun c hc => by
  simp only [la13, List.mem_cons, List.not_mem_nil, or_false] at hc
  rcases hc with rfl | rfl <;> simp [Cl.Fit, I64]
theorem lb_fit : ∀ c, c ∈ lb13 → c.Fit := fun c hc => by
  simp only [lb13, List.mem_cons, List.not_mem_nil, or_false] at hc
  subst hc
  simp [Cl.Fit, I64]
theorem la_44 : All44 la13 := fun c hc => by
  simp only [la13, List.mem_cons, List.not_mem_nil, or_false] at hc
  rcases hc with rfl | rfl <;> (unfold insP; rw [half44]; simp)
theorem lb_44 : All44 lb13 := fun c hc => by
  simp only [lb13, List.mem_cons, List.not_mem_nil, or_false] at hc
  subst hc
  unfold insP; rw [half44]; simp
theorem least_at {f : Int → Bool} {n : Nat} (h : n < 44) (hf : f n = true) : least f n = n := by unfold least; rw [dif_pos h, if_pos hf]
theorem least_up {f : Int → Bool} {n : Nat} (h : n < 44) (hf : f n = false) : least f n = least f (n + 1) := by
  conv => lhs; unfold least
  rw [dif_pos h, hf]; rfl
theorem la_lev : levOf la13 = 3 := by
  show least (fun n => inBox n (-4) 0 3 3) 3 = 3
  refine least_at (by omega) ?_
  show (insB 3 (-4) 0 && insB 3 3 3) = true
  rw [Bool.and_eq_true, insB_iff, insB_iff]
  unfold insP
  rw [half3]
  omega
theorem lb_lev : levOf lb13 = 4 := by
  show least (fun n => inBox n 4 0 4 0) 3 = 4
  rw [least_up (by omega)]
  · refine least_at (by omega) ?_
    show (insB 4 4 0 && insB 4 4 0) = true
    rw [Bool.and_eq_true, insB_iff]
    unfold insP
    rw [half4]
    omega
  · show (insB 3 4 0 && insB 3 4 0) = false
    rw [Bool.and_self]
    refine Bool.eq_false_iff.2 (fun h => ?_)
    rw [insB_iff] at h
    unfold insP at h
    rw [half3] at h
    omega
theorem la_look {w w' : World} {root : Nat} {A : Ars} (h : Tree13 la13 w root A w') : lookDen A.ns 3 root 3 0 0 = true := by
  have hd := h.den 1 1
  rw [la_lev] at hd
  have hd' := hd (by omega) (by omega)
  show (den A.ns 1 root ((3 + (halfN 3 : Int)).toNat / 4) ((0 + (halfN 3 : Int)).toNat / 4)).testBit (2 * plc 3 0 + 0) = true
  rw [half3]
  have e1 : ((3 + ((4 : Nat) : Int)).toNat / 4) = 1 := rfl
  have e2 : ((0 + ((4 : Nat) : Int)).toNat / 4) = 1 := rfl
  rw [e1, e2]
  have e3 : den A.ns 1 root 1 1 = leafOf la13 (-(halfN ((3 : Nat) : Int) : Int) + 4 * ((1 : Nat) : Int), -(halfN ((3 : Nat) : Int) : Int) + 4 * ((1 : Nat) : Int)) := hd'
  rw [e3, leafOf_bit]
  refine ⟨⟨3, 0, 0⟩, by simp [la13], ?_, rfl⟩
  have : halfN ((3 : Nat) : Int) = 4 := half3
  rw [this]
  rfl
theorem rc_row2 (W : World) : ClAt (W.alloc (.cells #[.int .i64 3, .int .i64 0, .int .i64 0, .int .i64 (-4), .int .i64 3, .int .i64 0] 55)) 55 (.slice (some ⟨W.heap.size, 0, none⟩) 2 2) la13 :=
  World.ownsRow_lit W #[.int .i64 3, .int .i64 0, .int .i64 0, .int .i64 (-4), .int .i64 3, .int .i64 0] 2 (Nat.zero_le _) (by unfold maxLen; omega) rfl
theorem rc_row1 (W : World) : ClAt (W.alloc (.cells #[.int .i64 4, .int .i64 0, .int .i64 0] 55)) 55 (.slice (some ⟨W.heap.size, 0, none⟩) 1 1) lb13 :=
  World.ownsRow_lit W #[.int .i64 4, .int .i64 0, .int .i64 0] 1 (Nat.zero_le _) (by unfold maxLen; omega) rfl

set_option maxRecDepth 100000 in
set_option maxHeartbeats 2000000 in
theorem awake13_any (w : World) : Calls Try.prog 15 #[] w fun e w' => e = .returned (.bool true) ∧ Only (fun _ => False) w w' := by
  have hm1 := Make_any _ la13 _ (rc_row2 w) la_fit la_44 (by decide)
  have hm2 := fun W => Make_any _ lb13 _ (rc_row1 W) lb_fit lb_44 (by decide)
  have hown := fun W => Own3_any 3 0 0 W
  have hhalf := fun W => tHalf_any 44 W (by omega)
  rw [half44] at hhalf
  have HM1 := Lib.hid hm1
  have HM2 := Lib.hid hm2
  have HOWN := Lib.hid hown
  have HHALF := Lib.hid hhalf
  clear hm1 hm2 hown hhalf
  go_enter Try.func15, Try.ntmps15
  go_wp2_with fail
  refine (HM1.out).mono ?_
  rintro e w1 ⟨r1, A1, rfl, hT1⟩
  have HT1 := Lib.hid hT1
  clear hT1
  go_wp2_with fail
  refine (HM2.out _).mono ?_
  rintro e w2 ⟨r2, A2, rfl, hT2⟩
  have ho2 := ((Only.refl (fun _ => False) w1).alloc (.cells #[.int .i64 4, .int .i64 0, .int .i64 0] 55)).trans hT2.only (fun _ _ h => h)
  have hT1 := HT1.out.later ho2
  have n1 := hT1.lt
  have n2 := hT2.lt
  have m1 := hT1.len
  have m2 := hT2.len
  have ll1 : la13.length = 2 := rfl
  have ll2 : lb13.length = 1 := rfl
  have v1 := hT1.lv
  have v2 := hT2.lv
  rw [la_lev] at v1
  rw [lb_lev] at v2
  rw [ll1] at m1
  rw [ll2] at m2
  have l1 := fun W (h : A1.At W) => Level_any A1 r1 W h (by omega)
  have l2 := fun W (h : A2.At W) => Level_any A2 r2 W h (by omega)
  simp only [Ars.lvI_in n1, v1] at l1
  simp only [Ars.lvI_in n2, v2] at l2
  have hg := fun W (h : A1.At W) => Get_any A1 3 r1 3 0 0 W h hT1.wf hT1.inv (by omega) n1 v1 (by omega) (by omega) (by unfold insP; rw [show halfN ((3 : Nat) : Int) = 4 from half3]; omega) (by omega)
  rw [la_look hT1] at hg
  have ho : Only (fun _ => False) w w2 := (((Only.refl (fun _ => False) w).alloc (.cells #[.int .i64 3, .int .i64 0, .int .i64 0, .int .i64 (-4), .int .i64 3, .int .i64 0] 55)).trans HT1.out.only (fun _ _ h => h)).trans ho2 (fun _ _ h => h)
  have HA1 := Lib.hid hT1.at_
  have HA2 := Lib.hid hT2.at_
  have L1 := Lib.hid l1
  have L2 := Lib.hid l2
  have HG := Lib.hid hg
  have HO := Lib.hid ho
  clear hT1 hT2 HT1 ho2 n1 n2 m1 m2 ll1 ll2 v1 v2 l1 l2 hg ho
  go_wp2_with fail
  refine (L1.out _ HA1.out).mono ?_
  rintro e w3 ⟨rfl, rfl⟩
  go_wp2_with fail
  refine (L2.out _ HA2.out).mono ?_
  rintro e w3 ⟨rfl, rfl⟩
  go_wp2_with fail
  refine (HOWN.out _).mono ?_
  rintro e w3 ⟨rfl, hO3⟩
  have HO3 := Lib.hid hO3
  have HA3 := Lib.hid (HA1.out.keep hO3 (fun _ _ h => h))
  clear hO3
  go_wp2_with fail
  refine (HG.out _ HA3.out).mono ?_
  rintro e w4 ⟨rfl, hO4⟩
  have HO4 := Lib.hid ((HO.out.trans HO3.out (fun _ _ h => h)).trans hO4 (fun _ _ h => h))
  clear hO4
  go_wp2_with fail
  refine (HHALF.out _).mono ?_
  rintro e w5 ⟨rfl, rfl⟩
  go_wp2_with fail
  go_ret
  exact ⟨rfl, HO4.out⟩
end Go.Proofs.Ytblhbfniomlfkaa
