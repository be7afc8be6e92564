/- Bits of leaves. Plain. -/
import Derived.Test.YtblhbfniomlfkaaCells
import Derived.Test.YtblhbfniomlfkaaRef09
import Derived.Laws.BitsAllLaws
namespace Go.Proofs.Ytblhbfniomlfkaa
open Go.RowKit

theorem tb3 (i : Nat) : Nat.testBit 3 i = decide (i < 2) := by
  match i with
  | 0 => rfl
  | 1 => rfl
  | i + 2 =>
    rw [Nat.testBit_lt_two_pow (show 3 < 2 ^ (i + 2) from by have : 2 ^ 2 ≤ 2 ^ (i + 2) := Nat.pow_le_pow_right (by omega) (by omega); omega)]
    simp
theorem tbm4 (N i : Nat) : (N / 4 * 4).testBit i = (N.testBit i && !decide (i < 2)) := by
  have h : N / 4 * 4 = (N >>> 2) <<< 2 := by rw [Nat.shiftRight_eq_div_pow, Nat.shiftLeft_eq]
  rw [h, Nat.testBit_shiftLeft, Nat.testBit_shiftRight]
  by_cases hi : i < 2
  · simp [hi, show ¬ 2 ≤ i from by omega]
  · simp [show 2 ≤ i from by omega, show 2 + (i - 2) = i from by omega, hi]
theorem andNot3 (a : Int) (h : -9223372036854775808 ≤ a ∧ a ≤ 9223372036854775807) : bits .andNot .i64 a 3 = a / 4 * 4 := by
  have e : (BitVec.ofInt 64 a &&& ~~~ BitVec.ofInt 64 3).toNat = (BitVec.ofInt 64 a).toNat / 4 * 4 := by
    apply Nat.eq_of_testBit_eq
    intro i
    rw [tbm4, BitVec.testBit_toNat, BitVec.testBit_toNat]
    by_cases hi : i < 64
    · simp only [BitVec.getLsbD_and, BitVec.getLsbD_not, hi, decide_true, Bool.true_and]
      congr 2
      have : (BitVec.ofInt 64 3).getLsbD i = Nat.testBit 3 i := rfl
      rw [this, tb3]
    · simp [BitVec.getLsbD_of_ge _ _ (show 64 ≤ i from by omega)]
  show IntKind.i64.wrap ((BitVec.ofInt 64 a &&& ~~~ BitVec.ofInt 64 3).toNat : Int) = _
  rw [e, IntWalk.i64_left]
  have hN : ((BitVec.ofInt 64 a).toNat : Int) = a % 18446744073709551616 := by
    rw [BitVec.toNat_ofInt]; omega
  generalize (BitVec.ofInt 64 a).toNat = N at hN
  unfold wrap64
  omega
theorem and3 (x : Nat) (h : x < 4294967296) : bits .and .i64 (x : Int) 3 = ((x % 4 : Nat) : Int) := by
  have e : (BitVec.ofInt 64 (x : Int) &&& BitVec.ofInt 64 3).toNat = x % 4 := by
    rw [BitVec.toNat_and]
    have h1 : (BitVec.ofInt 64 (x : Int)).toNat = x := by rw [BitVec.toNat_ofInt]; omega
    have h2 : (BitVec.ofInt 64 3).toNat = 2 ^ 2 - 1 := by rfl
    rw [h1, h2, Nat.and_two_pow_sub_one_eq_mod]
  show IntKind.i64.wrap ((BitVec.ofInt 64 (x : Int) &&& BitVec.ofInt 64 3).toNat : Int) = _
  rw [e]
  exact IntWalk.i64_in _ (by omega)

/-- A leaf with another state at place k. -/
def putW (f k s : Nat) : Nat := (f &&& (4294967295 - 3 * 2 ^ (2 * k))) ||| (s * 2 ^ (2 * k))
theorem mask_bit : ∀ k : Fin 16, ∀ i : Fin 32, Nat.testBit (4294967295 - 3 * 2 ^ (2 * k.1)) i.1 = !(decide (i.1 = 2 * k.1) || decide (i.1 = 2 * k.1 + 1)) := by decide +kernel
theorem putW_run (f k s : Nat) (hf : f < 4294967296) (hk : k < 16) (hs : s < 4) :
    bits .or .u32 (bits .andNot .u32 (f : Int) (3 * 2 ^ (2 * k) % 4294967296)) ((s : Int) * 2 ^ (2 * k) % 4294967296) = ((putW f k s : Nat) : Int) := by
  have hp : 2 ^ (2 * k) ≤ 2 ^ 30 := Nat.pow_le_pow_right (by omega) (by omega)
  have hc : (2 : Int) ^ (2 * k) = ((2 ^ (2 * k) : Nat) : Int) := by simp
  rw [hc]
  unfold putW
  generalize 2 ^ (2 * k) = p at hp ⊢
  have hp : p ≤ 1073741824 := hp
  have h5 : s * p ≤ 3 * p := Nat.mul_le_mul_right _ (by omega)
  have e1 : (3 * (p : Int) % 4294967296 : Int) = ((3 * p : Nat) : Int) := by omega
  have e2 : ((s : Int) * (p : Int) % 4294967296) = ((s * p : Nat) : Int) := by
    rw [← Int.natCast_mul]
    generalize s * p = q at h5 ⊢
    omega
  generalize s * p = q at h5 e2 ⊢
  rw [e1, e2, u32_andNot_nat f (3 * p) hf (by omega)]
  exact u32_or_nat _ _ (Nat.lt_of_le_of_lt Nat.and_le_left hf) (by omega)
theorem putW_lt (f k s : Nat) (hf : f < 4294967296) (hk : k < 16) (hs : s < 4) : putW f k s < 4294967296 := by
  have hp : 2 ^ (2 * k) ≤ 2 ^ 30 := Nat.pow_le_pow_right (by omega) (by omega)
  have h5 : s * 2 ^ (2 * k) ≤ 3 * 2 ^ (2 * k) := Nat.mul_le_mul_right _ (by omega)
  unfold putW
  exact Nat.or_lt_two_pow (n := 32) (Nat.lt_of_le_of_lt Nat.and_le_left hf) (by omega)
theorem putW_bit (f k s i : Nat) (hk : k < 16) (hs : s < 4) (hi : i < 32) : (putW f k s).testBit i = if i = 2 * k then s.testBit 0 else if i = 2 * k + 1 then s.testBit 1 else f.testBit i := by
  unfold putW
  rw [Nat.testBit_or, Nat.testBit_and, mask_bit ⟨k, hk⟩ ⟨i, hi⟩, Nat.testBit_mul_two_pow]
  by_cases h1 : i = 2 * k
  · subst h1; simp
  · by_cases h2 : i = 2 * k + 1
    · subst h2; simp
    · simp only [h1, h2, decide_false, Bool.or_self, Bool.not_false, Bool.and_true, if_false]
      by_cases h3 : 2 * k ≤ i
      · have : s.testBit (i - 2 * k) = false := Nat.testBit_lt_two_pow (by
          have : 2 ^ 2 ≤ 2 ^ (i - 2 * k) := Nat.pow_le_pow_right (by omega) (by omega)
          omega)
        simp [this]
      · simp [h3]
/-- A leaf with a cell more. -/
def withN (f k h : Nat) : Nat := f ||| 2 ^ (2 * k + h)
theorem state_or : ∀ s : Fin 4, ∀ h : Fin 2, bits .or .i64 (bits .andNot .i64 (s.1 : Int) ((2 ^ h.1 : Nat) : Int)) ((2 ^ h.1 : Nat) : Int) = ((s.1 ||| 2 ^ h.1 : Nat) : Int) := by decide +kernel
theorem or_lt4 : ∀ s : Fin 4, ∀ h : Fin 2, s.1 ||| 2 ^ h.1 < 4 := by decide
theorem st_bit (f n : Nat) : (f / 2 ^ n % 4).testBit 0 = f.testBit n ∧ (f / 2 ^ n % 4).testBit 1 = f.testBit (n + 1) := by
  have h : ∀ j, j < 2 → (f / 2 ^ n % 4).testBit j = f.testBit (n + j) := fun j hj => by
    rw [show 4 = 2 ^ 2 from rfl, Nat.testBit_mod_two_pow, ← Nat.shiftRight_eq_div_pow, Nat.testBit_shiftRight]
    simp [hj]
  exact ⟨h 0 (by omega), h 1 (by omega)⟩
theorem with_eq (f k h : Nat) (hf : f < 4294967296) (hk : k < 16) (hh : h < 2) : putW f k (f / 2 ^ (2 * k) % 4 ||| 2 ^ h) = withN f k h := by
  have hs : f / 2 ^ (2 * k) % 4 ||| 2 ^ h < 4 := or_lt4 ⟨f / 2 ^ (2 * k) % 4, Nat.mod_lt _ (by omega)⟩ ⟨h, hh⟩
  have hw : withN f k h < 2 ^ 32 := by
    unfold withN
    exact Nat.or_lt_two_pow (by omega) (Nat.pow_lt_pow_right (by omega) (by omega))
  have hl := putW_lt f k _ hf hk hs
  apply Nat.eq_of_testBit_eq
  intro i
  by_cases hi : i < 32
  · rw [putW_bit f k _ i hk hs hi]
    unfold withN
    obtain ⟨b0, b1⟩ := st_bit f (2 * k)
    rw [Nat.testBit_or, Nat.testBit_or, Nat.testBit_or, Nat.testBit_two_pow, Nat.testBit_two_pow, Nat.testBit_two_pow, b0, b1]
    by_cases h1 : i = 2 * k
    · subst h1; rw [if_pos rfl]; congr 1; simp
    · rw [if_neg h1]
      by_cases h2 : i = 2 * k + 1
      · subst h2; rw [if_pos rfl]; congr 1; simp
      · rw [if_neg h2]
        have : decide (2 * k + h = i) = false := by simp; omega
        rw [this]; simp
  · have h32 : 2 ^ 32 ≤ 2 ^ i := Nat.pow_le_pow_right (by omega) (by omega)
    rw [Nat.testBit_lt_two_pow (show putW f k _ < 2 ^ i from by omega), Nat.testBit_lt_two_pow (show withN f k h < 2 ^ i from by omega)]

def I64 (z : Int) : Prop := -9223372036854775808 ≤ z ∧ z ≤ 9223372036854775807
def low4 (a : Int) : Int := a / 4 * 4
/-- The place of a point in its leaf. -/
def plc (a b : Int) : Nat := 4 * (b % 4).toNat + (a % 4).toNat
theorem plc_lt (a b : Int) : plc a b < 16 := by unfold plc; omega
end Go.Proofs.Ytblhbfniomlfkaa
