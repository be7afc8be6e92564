/- sweep.mark. -/
import Derived.Test.YtblhbfniomlfkaaGraph
namespace Go.Proofs.Ytblhbfniomlfkaa
open Go.RowKit

theorem Ars.lvI_in {A : Ars} {i : Nat} (h : i < A.ns.length) : A.lvI i = (lvN A.ns i : Nat) := by simp [Ars.lvI, h, lvN]
theorem Ars.kidsV_in {A : Ars} {i : Nat} (h : i < A.ns.length) : A.kidsV i = .agg #[.int .u32 (A.ns.getD i default).k0, .int .u32 (A.ns.getD i default).k1, .int .u32 (A.ns.getD i default).k2, .int .u32 (A.ns.getD i default).k3] := by simp [Ars.kidsV, h, Nd.kidsV]

/-- What mark leaves. -/
def MarkPost (A : Ars) (b a : Nat) (S : List Nat) (w : World) (e : Ending) (w' : World) : Prop :=
  ∃ S', e = .returned (.tuple #[]) ∧ MarkEnd A.ns a S S' ∧ MapAt 3 .i64 w' b (ones S') ∧ Only (fun k => k = b) w w'

structure MarkLoop (A : Ars) (b a : Nat) (S : List Nat) (w : World) (j : Nat) (wr : World) : Prop where
  le : j ≤ 4
  ex : ∃ S', MarkRel A.ns a S S' j ∧ MapAt 3 .i64 wr b (ones S')
  only : Only (fun k => k = b) w wr

set_option maxRecDepth 100000 in
set_option maxHeartbeats 2000000 in
theorem mark_any (A : Ars) (hW : Wf A.ns) (hN : A.ns.length < 1073741824) (b : Nat) : ∀ (a : Nat), a < A.ns.length → ∀ (S : List Nat) (w : World), A.At w → MapAt 3 .i64 w b (ones S) → SOk A.ns S →
    Calls Try.prog 44 #[.pointer (some ⟨A.p, 0, none⟩), .int .u32 a, .map (some b)] w (MarkPost A b a S w) := by
  intro a
  induction a using Nat.strongRecOn with
  | ind a ih => ?_
  intro ha S w hA hM hS
  have hlen := hS.length
  have hnf := hM.not_foot hA
  have hlook := ones_look S a
  have hhas := ones_hasK S a
  have hal : a < 4294967296 := by omega
  have hol := ones_length S
  have IH := Lib.hid ih
  have HA := Lib.hid hA
  have HM := Lib.hid hM
  have HS := Lib.hid hS
  have HN := Lib.hid hnf
  have HW := Lib.hid hW
  clear ih hA hM hS hnf
  by_cases hin : a ∈ S
  · rw [if_pos hin] at hlook
    go_enter Try.func44, Try.ntmps44
    go_wp2_with (at_lookup; refine wp_look _ rfl _ _ 94 rfl 3 .i64 Try.underlying94 Try.underlying3 (zero_int _) b (ones S) rfl HM.out a hal rfl ?_; rw [hlook])
    go_end0
    exact ⟨S, rfl, .seen HS.out hin, HM.out, Only.refl _ _⟩
  · rw [if_neg hin] at hlook
    rw [decide_eq_false hin] at hhas
    go_enter Try.func44, Try.ntmps44
    go_wp2_with (first
      | (at_lookup; refine wp_look _ rfl _ _ 94 rfl 3 .i64 Try.underlying94 Try.underlying3 (zero_int _) b (ones S) rfl HM.out a hal rfl ?_; rw [hlook])
      | (at_mapUpdate; refine wp_put _ rfl _ _ _ 94 rfl 3 .i64 Try.underlying94 Try.underlying3 b (ones S) rfl HM.out (by omega) a 1 hal rfl rfl (by decide) hhas ?_; intro w1 hM1 ho1)
      | fail)
    have hA1 := HA.out.keep ho1 (fun k hk e => by subst e; exact HN.out hk)
    have hst := MarkRel.start HS.out hin ha
    have hlv := Level_any A a
    rw [Ars.lvI_in ha] at hlv
    have hkd := Kids_any A a
    rw [Ars.kidsV_in ha] at hkd
    obtain ⟨x0, x1, x2, x3, hkn, hkv⟩ : ∃ x0 x1 x2 x3, (∀ j, kidN A.ns a j = four x0 x1 x2 x3 j) ∧ Value.agg #[.int .u32 (A.ns.getD a default).k0, .int .u32 (A.ns.getD a default).k1, .int .u32 (A.ns.getD a default).k2, .int .u32 (A.ns.getD a default).k3] = .agg #[.int .u32 (x0 : Nat), .int .u32 (x1 : Nat), .int .u32 (x2 : Nat), .int .u32 (x3 : Nat)] := ⟨_, _, _, _, fun _ => rfl, rfl⟩
    rw [hkv] at hkd
    have HKN := Lib.hid hkn
    have HA1 := Lib.hid hA1
    have HM1 := Lib.hid hM1
    have HO1 := Lib.hid ho1
    have HST := Lib.hid hst
    have HLV := Lib.hid hlv
    have HKD := Lib.hid hkd
    clear hA1 hM1 ho1 hst hlv hkd hin hkn hkv
    by_cases hdeep : 2 < lvN A.ns a
    · have hd : (2 : Int) < (lvN A.ns a : Int) := by omega
      go_wp2_with (first
        | (go_at_call 43; refine ((HLV.out _ HA1.out hal)).mono ?_; rintro e w' ⟨rfl, rfl⟩)
        | (go_at_call 48; refine ((HKD.out _ HA1.out hal)).mono ?_; rintro e w2 ⟨rfl, ho2⟩)
        | fail)
      go_loopw [23] (fun c wr => ∃ j : Nat, c = .int .i64 j ∧ MarkLoop A b a S w j wr) (fun c _ => 4 - (intOf c).toNat)
      case atStart => exact ⟨0, rfl, by omega, ⟨_, HST.out, HM1.out.keep ho2 (fun h => h)⟩, HO1.out.trans ho2 (fun _ _ h => h.elim)⟩
      case round =>
        obtain ⟨j, rfl, hle, ⟨S1, hMR, hM1⟩, hO⟩ := hrel
        by_cases hj : j < 4
        · have hx := idx4 x0 x1 x2 x3 j hj
          obtain ⟨k, hk⟩ : ∃ k, k = kidN A.ns a j := ⟨_, rfl⟩
          have hka : k < a := by rw [hk]; exact HW.out.kid ha hdeep j
          have hrec := IH.out k hka (by omega) S1 wr (HA.out.keep hO (fun i hi e => by subst e; exact HN.out hi)) hM1 hMR.ok
          simp only [← HKN.out j, ← hk] at hx
          have HK := Lib.hid hk
          have HR := Lib.hid hrec
          have HMR := Lib.hid hMR
          have HO2 := Lib.hid hO
          clear hk hrec hMR hM1 hO
          go_wp2_with (first
            | (go_at_call 44; refine (HR.out).mono ?_; rintro e w3 ⟨S2, rfl, hE, hM2, hO3⟩)
            | fail)
          go_roundw
          case rel =>
            go_light
            exact ⟨j + 1, by go_num, hj, ⟨S2, HMR.out.next hdeep (by rw [← HK.out]; exact hE), hM2⟩, HO2.out.trans hO3 (fun _ _ h => h)⟩
          case measure => simp [intOf]; omega
        · obtain rfl : j = 4 := by omega
          have HMR := Lib.hid hMR
          have HO2 := Lib.hid hO
          clear hMR hO
          go_wp2
          go_end0
          go_light
          exact ⟨S1, rfl, HMR.out.done, hM1, HO2.out⟩
    · have hd : ¬ (2 : Int) < (lvN A.ns a : Int) := by omega
      go_wp2_with (first
        | (go_at_call 43; refine ((HLV.out _ HA1.out hal)).mono ?_; rintro e w' ⟨rfl, rfl⟩)
        | fail)
      go_end0
      exact ⟨a :: S, rfl, HST.out.leaf hdeep, HM1.out, HO1.out⟩
end Go.Proofs.Ytblhbfniomlfkaa
