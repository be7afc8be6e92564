/- (site.Leaf).Count; the arena's Leaf. -/
import Derived.Test.YtblhbfniomlfkaaFind
import Derived.Test.YtblhbfniomlfkaaPop
namespace Go.Proofs.Ytblhbfniomlfkaa
open Go.RowKit

set_option maxHeartbeats 400000 in
theorem leafCount_any (f : Nat) (w : World) (hf : f < 4294967296) : Calls Try.prog 27 #[.int .u32 f] w fun e w' => e = .returned (.int .i64 (popc f)) ∧ w = w' := by
  have hle := popc_le f
  go_enter Try.func27, Try.ntmps27
  go_wp2
  go_loop [0, 3] (fun v c => ∃ m n : Nat, v = .int .u32 m ∧ c = .int .i64 n ∧ m < 4294967296 ∧ n + popc m = popc f) (fun v _ => (intOf v).toNat)
  case atStart => exact ⟨f, 0, rfl, rfl, hf, by omega⟩
  case round =>
    obtain ⟨m, n, rfl, rfl, hm, hn⟩ := hrel
    cases m with
    | zero =>
      rw [popc_zero] at hn
      have Hn := Lib.hid hn
      clear hn
      go_wp2
      go_ret
      exact ⟨by rw [← Hn.out]; rfl, rfl⟩
    | succ m =>
      have hp := popc_pos (n := m + 1) (by omega)
      rw [Nat.add_sub_cancel] at hp
      have hl : (m + 1) &&& m ≤ m := Nat.and_le_right
      have hb : bits .and .u32 ((m : Int) + 1) (m : Int) = (((m + 1) &&& m : Nat) : Int) := u32_and_nat (m + 1) m hm (by omega)
      rw [hp] at hn
      have Hb := Lib.hid hb
      have Hn := Lib.hid hn
      have hn1 : (n : Int) ≤ 4294967296 := by omega
      clear hb hp hn
      go_wp2
      go_round
      case rel => exact ⟨_, n + 1, by rw [← Hb.out], by go_num, by omega, by have := Hn.out; omega⟩
      case measure =>
        have h := Hb.out
        simp only [intOf]
        omega

def leafKey (f : Nat) : Key := ⟨2, f, 0, 0, 0, 0⟩

set_option maxHeartbeats 400000 in
theorem Leaf_any (A : Ars) (f : Nat) (w : World) (hA : A.At w) (hI : A.Inv) (hN : A.ns.length < 1073741824) (hf : f < 4294967296) :
    Calls Try.prog 38 #[.pointer (some ⟨A.p, 0, none⟩), .int .u32 f] w (FindPost A w (leafKey f) (popc f)) := by
  have hp := popc_bits 32 f (by simpa using hf)
  have h1 := leafCount_any f
  have h2 : Calls Try.prog 64 #[.pointer (some ⟨A.p, 0, none⟩), .agg #[.int .i64 2, .int .u32 f, .int .u32 0, .int .u32 0, .int .u32 0, .int .u32 0], .int .u64 (popc f)] w (FindPost A w (leafKey f) (popc f)) :=
    find_any A (leafKey f) (popc f) w hA hI hN (by simp [Nd.Fit, Key.nd, leafKey, hf]) (by omega)
  have H1 := Lib.hid h1
  have H2 := Lib.hid h2
  clear h1 h2 hA hI
  go_enter Try.func38, Try.ntmps38
  go_wp2_with fail
  refine (H1.out w hf).mono ?_
  rintro e w' ⟨rfl, rfl⟩
  go_wp2_with fail
  refine (H2.out).mono ?_
  rintro e w' ⟨A', hS, rfl⟩
  go_wp2
  go_ret2
  exact ⟨A', hS, rfl⟩
end Go.Proofs.Ytblhbfniomlfkaa
