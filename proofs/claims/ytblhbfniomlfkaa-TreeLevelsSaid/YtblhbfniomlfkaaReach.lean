/- sweep.Reach. -/
import Derived.Test.YtblhbfniomlfkaaMark
namespace Go.Proofs.Ytblhbfniomlfkaa
open Go.RowKit

/-- What the walks want of a row of uint32. -/
theorem row_cell {w : World} {g n cap base : Nat} {l : List Nat} (h : w.ownsRow base 32 1 (.slice (some ⟨g, 0, none⟩) n cap) n (u32s l)) {x : Nat} (hx : x < n) (hn : n = l.length) : w.cell? ⟨g, x, none⟩ = some (.int .u32 (l.getD x 0 : Nat)) := by
  subst hn
  rw [h.cellAt x (by omega)]
  simp [u32s, hx]

/-- What Reach answers. -/
def ReachPost (A : Ars) (rs : List Nat) (w : World) (e : Ending) (w' : World) : Prop :=
  ∃ S : List Nat, e = .returned (.tuple #[.int .i64 S.length, .nilIface]) ∧ Seen A.ns rs S ∧ Only (fun _ => False) w w'

structure ReachLoop (A : Ars) (rs : List Nat) (w : World) (j : Nat) (wr : World) : Prop where
  le : j ≤ rs.length
  ex : ∃ S, Seen A.ns (rs.take j) S ∧ MapAt 3 .i64 wr w.heap.size (ones S)
  only : Only (fun _ => False) w wr

theorem take_next (l : List Nat) {j : Nat} (h : j < l.length) : l.take (j + 1) = l.take j ++ [l.getD j 0] := by
  rw [List.take_add_one]
  simp [h]

set_option maxRecDepth 100000 in
set_option maxHeartbeats 2000000 in
theorem Reach_any (A : Ars) (hW : Wf A.ns) (hN : A.ns.length < 1073741824) (base : Nat) (v : Value) (rs : List Nat) (hrs : ∀ r, r ∈ rs → r < A.ns.length) (w : World) (hA : A.At w) (hR : w.ownsRow base 32 1 v rs.length (u32s rs)) :
    Calls Try.prog 10 #[.pointer (some ⟨A.p, 0, none⟩), v] w (ReachPost A rs w) := by
  obtain ⟨ad, cap, hv, hm⟩ := own_slice hR
  have hm : rs.length ≤ 9223372036854775807 := by unfold maxLen at hm; omega
  have HA := Lib.hid hA
  have HR := Lib.hid hR
  have HV := Lib.hid hv
  have HW := Lib.hid hW
  have HS := Lib.hid hrs
  have hpl := hA.blk.lt
  rw [hv]
  clear hA hR hv hrs
  have hmm := @run_makeMap Try.prog
  go_enter Try.func10, Try.ntmps10
  go_wp2
  go_loopw [12] (fun c wr => ∃ j : Nat, c = .int .i64 j ∧ ReachLoop A rs w j wr) (fun c _ => rs.length - (intOf c).toNat)
  case atStart => exact ⟨0, rfl, by omega, ⟨[], .nil _, .made _ _ _⟩, (Only.refl _ _).alloc _⟩
  case round =>
    obtain ⟨j, rfl, hle, ⟨S, hSe, hM⟩, hO⟩ := hrel
    by_cases hj : j < rs.length
    · obtain ⟨g, cap', hv', _⟩ := own_form HR.out (by omega)
      have h := HV.out.symm.trans hv'
      simp only [Value.slice.injEq] at h
      obtain ⟨rfl, _, rfl⟩ := h
      have hA1 := HA.out.keep hO (fun _ _ h => h)
      have hrow := own_only HR.out hO (fun _ _ h => h)
      rw [hv'] at hrow
      have d0 := row_cell hrow hj rfl
      obtain ⟨r, hr⟩ : ∃ r, r = rs.getD j 0 := ⟨_, rfl⟩
      rw [← hr] at d0
      have hrN : r < A.ns.length := HS.out r (by rw [hr]; simp [hj])
      have hlv := Level_any A r wr hA1 (by omega)
      rw [Ars.lvI_in hrN] at hlv
      have hmk := mark_any A HW.out hN w.heap.size r hrN S wr hA1 hM hSe.ok
      have HLV := Lib.hid hlv
      have HMK := Lib.hid hmk
      have HO := Lib.hid hO
      have HSE := Lib.hid hSe
      have Hr := Lib.hid hr
      clear hA1 hrow hlv hmk hM hO hSe hr hv'
      have hn : ¬ (lvN A.ns r : Int) < 0 := by omega
      go_wp2_with (first
        | (go_at_call 43; refine (HLV.out).mono ?_; rintro e w' ⟨rfl, rfl⟩)
        | (go_at_call 44; refine (HMK.out).mono ?_; rintro e w3 ⟨S2, rfl, hE, hM2, hO3⟩)
        | fail)
      go_roundw
      case rel =>
        go_light
        exact ⟨j + 1, by go_num, hj, ⟨S2, by rw [take_next _ hj, ← Hr.out]; exact HSE.out.next hE, hM2⟩, HO.out.trans hO3 (fun i hi e => by omega)⟩
      case measure => simp [intOf]; omega
    · obtain rfl : j = rs.length := by omega
      have hlen := ones_length S
      rw [List.take_length] at hSe
      have HM := Lib.hid hM
      have HO := Lib.hid hO
      have HSE := Lib.hid hSe
      clear hM hO hSe
      go_wp2_with (first
        | (at_len; refine wp_maplen _ rfl _ 94 rfl 3 .i64 Try.underlying94 w.heap.size (ones S) rfl HM.out ?_; rw [hlen])
        | fail)
      go_ret2
      go_light
      exact ⟨S, rfl, HSE.out, HO.out⟩
end Go.Proofs.Ytblhbfniomlfkaa
