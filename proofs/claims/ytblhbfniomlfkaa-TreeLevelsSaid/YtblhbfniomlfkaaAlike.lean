/- honeycomblaw17.alike. -/
import Derived.Test.YtblhbfniomlfkaaCopy
import Derived.Test.YtblhbfniomlfkaaRegion2
namespace Go.Proofs.Ytblhbfniomlfkaa
open Go.RowKit

theorem Ars.cntI_in {A : Ars} {i : Nat} (h : i < A.ns.length) : A.cntI i = cntN A.ns i := by simp [Ars.cntI, h, cntN]
theorem kids_run (A : Ars) (i : Nat) (hi : i < A.ns.length) (hi' : i < 4294967296) : ∃ x0 x1 x2 x3, (∀ j, kidN A.ns i j = four x0 x1 x2 x3 j) ∧ ∀ w, A.At w → Calls Try.prog 48 #[.pointer (some ⟨A.p, 0, none⟩), .int .u32 i] w fun e w' =>
    e = .returned (.agg #[.int .u32 (x0 : Nat), .int .u32 (x1 : Nat), .int .u32 (x2 : Nat), .int .u32 (x3 : Nat)]) ∧ Only (fun _ => False) w w' := by
  refine ⟨_, _, _, _, fun _ => rfl, fun w hA => ?_⟩
  have h := Kids_any A i w hA hi'
  rwa [Ars.kidsV_in hi] at h

set_option maxRecDepth 100000 in
set_option maxHeartbeats 2000000 in
theorem alike_any (A B : Ars) (M : List (Nat × Nat)) (hW : Wf A.ns) (hok : MvOk A.ns B.ns M) (hNA : A.ns.length < 1073741824) (hNB : B.ns.length < 1073741824) : ∀ (x y : Nat), (x, y) ∈ M → ∀ w, A.At w → B.At w →
    Calls Try.prog 14 #[.pointer (some ⟨A.p, 0, none⟩), .int .u32 x, .pointer (some ⟨B.p, 0, none⟩), .int .u32 y] w fun e w' => e = .returned (.bool true) ∧ Only (fun _ => False) w w' := by
  intro x
  induction x using Nat.strongRecOn with
  | ind x ih => ?_
  intro y hxy w hA hB
  obtain ⟨hx, hy⟩ := hok.lt x y hxy
  obtain ⟨hl, hb, hc⟩ := hok.like x y hxy
  have hla := fun w hA => Level_any A x w hA (by omega)
  have hlb := fun w hB => Level_any B y w hB (by omega)
  have hba := fun w hA => Bits_any A x w hA (by omega)
  have hbb := fun w hB => Bits_any B y w hB (by omega)
  have hca := fun w hA => Count_any A x w hA (by omega)
  have hcb := fun w hB => Count_any B y w hB (by omega)
  simp only [Ars.lvI_in hx] at hla
  simp only [Ars.lvI_in hy, hl] at hlb
  simp only [Ars.bitsI_in hx] at hba
  simp only [Ars.bitsI_in hy, hb] at hbb
  simp only [Ars.cntI_in hx] at hca
  simp only [Ars.cntI_in hy, hc] at hcb
  obtain ⟨x0, x1, x2, x3, hkx, hkA⟩ := kids_run A x hx (by omega)
  obtain ⟨y0, y1, y2, y3, hky, hkB⟩ := kids_run B y hy (by omega)
  have h2 := (hW.two x hx).1
  have HLA := Lib.hid hla
  have HLB := Lib.hid hlb
  have HBA := Lib.hid hba
  have HBB := Lib.hid hbb
  have HCA := Lib.hid hca
  have HCB := Lib.hid hcb
  have HKX := Lib.hid hkx
  have HKA := Lib.hid hkA
  have HKY := Lib.hid hky
  have HKB := Lib.hid hkB
  have HA := Lib.hid hA
  have HB := Lib.hid hB
  have IH := Lib.hid ih
  have HOK := Lib.hid hok
  have HXY := Lib.hid hxy
  have HW := Lib.hid hW
  clear hla hlb hba hbb hca hcb hkx hkA hky hkB hA hB ih hok hxy hW hl hb hc
  by_cases hleaf : lvN A.ns x = 2
  · rw [hleaf] at HLA HLB
    go_enter Try.func14, Try.ntmps14
    go_wp2_with fail
    refine (HLA.out _ HA.out).mono ?_
    rintro e w' ⟨rfl, rfl⟩
    go_wp2_with fail
    refine (HLB.out _ HB.out).mono ?_
    rintro e w' ⟨rfl, rfl⟩
    go_wp2_with fail
    refine (HBA.out _ HA.out).mono ?_
    rintro e w' ⟨rfl, rfl⟩
    go_wp2_with fail
    refine (HBB.out _ HB.out).mono ?_
    rintro e w' ⟨rfl, rfl⟩
    go_wp2_with fail
    refine (HCA.out _ HA.out).mono ?_
    rintro e w' ⟨rfl, rfl⟩
    go_wp2_with fail
    refine (HCB.out _ HB.out).mono ?_
    rintro e w' ⟨rfl, rfl⟩
    go_wp2_with fail
    refine (HLA.out _ HA.out).mono ?_
    rintro e w' ⟨rfl, rfl⟩
    go_wp2_with fail
    go_ret
    exact ⟨rfl, Only.refl _ _⟩
  · have hd : ((lvN A.ns x : Int) == 2) = false := by simp; omega
    go_enter Try.func14, Try.ntmps14
    go_wp2_with fail
    refine (HLA.out _ HA.out).mono ?_
    rintro e w' ⟨rfl, rfl⟩
    go_wp2_with fail
    refine (HLB.out _ HB.out).mono ?_
    rintro e w' ⟨rfl, rfl⟩
    go_wp2_with fail
    refine (HBA.out _ HA.out).mono ?_
    rintro e w' ⟨rfl, rfl⟩
    go_wp2_with fail
    refine (HBB.out _ HB.out).mono ?_
    rintro e w' ⟨rfl, rfl⟩
    go_wp2_with fail
    refine (HCA.out _ HA.out).mono ?_
    rintro e w' ⟨rfl, rfl⟩
    go_wp2_with fail
    refine (HCB.out _ HB.out).mono ?_
    rintro e w' ⟨rfl, rfl⟩
    go_wp2_with fail
    refine (HLA.out _ HA.out).mono ?_
    rintro e w' ⟨rfl, rfl⟩
    go_wp2_with fail
    go_loopw [39] (fun c wr => ∃ j : Nat, c = .int .i64 j ∧ j ≤ 4 ∧ Only (fun _ => False) w wr) (fun c _ => 4 - (intOf c).toNat)
    case atStart => exact ⟨0, rfl, by omega, Only.refl _ _⟩
    case round =>
      obtain ⟨j, rfl, hle, hO⟩ := hrel
      by_cases hj : j < 4
      · have hA1 := HA.out.keep hO (fun _ _ h => h)
        have hB1 := HB.out.keep hO (fun _ _ h => h)
        have i1 := fun W => idx4 x0 x1 x2 x3 j hj W
        have i2 := fun W => idx4 y0 y1 y2 y3 j hj W
        have hak := HKA.out _ hA1.drew
        obtain ⟨k, hk⟩ : ∃ k, k = kidN A.ns x j := ⟨_, rfl⟩
        obtain ⟨m, hm⟩ : ∃ m, m = kidN B.ns y j := ⟨_, rfl⟩
        have hka : k < x := by rw [hk]; exact HW.out.kid hx (by omega) j
        have hrec := IH.out k hka m (by rw [hk, hm]; exact HOK.out.kid x y HXY.out (by omega) j)
        simp only [← HKX.out j, ← hk] at i1
        simp only [← HKY.out j, ← hm] at i2
        have HAK := Lib.hid hak
        have HR := Lib.hid hrec
        have HA1 := Lib.hid hA1
        have HB1 := Lib.hid hB1
        have HO := Lib.hid hO
        clear hak hrec hA1 hB1 hO hk hm
        go_wp2_with fail
        refine wp_region_steps (fun _ => True) [(true, 0), (true, 1), (true, 2), (true, 4), (true, 6), (true, 7), (true, 8), (true, 10), (false, 3), (true, 5), (false, 9), (true, 11), (false, 12), (false, 13)] [] (by kernel_rfl) (by kernel_rfl) (fun _ _ d _ _ h => by cases d <;> exact h) trivial ?_
        simp only [pick, pickB, List.getElem?_cons_zero, List.getElem?_cons_succ]
        iterate 8
          refine stepL_head (v := ?_) rfl ?_ ?_
          rotate_left
          · intro W' _
            go_simp
            try rfl
          try simp only [Act.put, List.setIfInBounds_toArray, List.set_cons_zero, List.set_cons_succ]
        refine stepL_move ?_
        go_wp2_with fail
        refine (HAK.out).mono ?_
        rintro e w2 ⟨rfl, ho2⟩
        go_wp2_with fail
        refine ⟨trivial, stepL_head (v := ?_) rfl ?_ ?_⟩
        rotate_left
        · intro W' _
          go_simp
          rfl
        try simp only [Act.put, List.setIfInBounds_toArray, List.set_cons_zero, List.set_cons_succ]
        refine stepL_move ?_
        go_wp2_with fail
        refine (HKB.out _ (HB1.out.drew.keep ho2 (fun _ _ h => h))).mono ?_
        rintro e w3 ⟨rfl, ho3⟩
        go_wp2_with fail
        refine ⟨trivial, stepL_head (v := ?_) rfl ?_ ?_⟩
        rotate_left
        · intro W' _
          go_simp
          rfl
        try simp only [Act.put, List.setIfInBounds_toArray, List.set_cons_zero, List.set_cons_succ]
        refine stepL_move ?_
        go_wp2_with fail
        have ho23 := ho2.trans ho3 (fun _ _ h => h)
        refine (HR.out _ (HA1.out.drew.keep ho23 (fun _ _ h => h)) (HB1.out.drew.keep ho23 (fun _ _ h => h))).mono ?_
        rintro e w4 ⟨rfl, ho4⟩
        go_wp2_with fail
        refine ⟨trivial, stepL_move ?_⟩
        go_wp2_with fail
        refine ⟨trivial, stepL_nil ?_⟩
        go_wp2
        go_roundw
        case rel =>
          go_light
          exact ⟨j + 1, by go_num, hj, ((HO.out.drew).trans ho23 (fun _ _ h => h)).trans ho4 (fun _ _ h => h)⟩
        case measure => simp [intOf]; omega
      · obtain rfl : j = 4 := by omega
        go_wp2
        go_ret
        exact ⟨rfl, hO⟩
end Go.Proofs.Ytblhbfniomlfkaa
