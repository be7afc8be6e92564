/- How many bits of a number are set: by clearing the lowest one, one by one. -/
namespace Go.Proofs.Ytblhbfniomlfkaa

def popc (n : Nat) : Nat := if n = 0 then 0 else 1 + popc (n &&& (n - 1))
termination_by n
decreasing_by exact Nat.lt_of_le_of_lt Nat.and_le_right (by omega)

theorem popc_zero : popc 0 = 0 := by unfold popc; simp
theorem popc_pos {n : Nat} (h : n ≠ 0) : popc n = 1 + popc (n &&& (n - 1)) := by rw [popc]; simp [h]

theorem and_even (q : Nat) (h : 0 < q) : (2 * q) &&& (2 * q - 1) = 2 * (q &&& (q - 1)) := by
  have e : 2 * q - 1 = 2 * (q - 1) + 1 := by omega
  rw [e]
  apply Nat.eq_of_testBit_eq
  intro i
  cases i with
  | zero => simp [Nat.testBit_zero]
  | succ i => rw [Nat.testBit_and, Nat.testBit_succ, Nat.testBit_succ, Nat.testBit_succ, show 2 * q / 2 = q by omega, show (2 * (q - 1) + 1) / 2 = q - 1 by omega, show 2 * (q &&& (q - 1)) / 2 = q &&& (q - 1) by omega, Nat.testBit_and]
theorem and_odd (q : Nat) : (2 * q + 1) &&& (2 * q + 1 - 1) = 2 * q := by
  rw [Nat.add_sub_cancel]
  apply Nat.eq_of_testBit_eq
  intro i
  cases i with
  | zero => simp [Nat.testBit_zero]
  | succ i => rw [Nat.testBit_and, Nat.testBit_succ, Nat.testBit_succ, show 2 * q / 2 = q by omega, show (2 * q + 1) / 2 = q by omega, Bool.and_self]

theorem popc_even (q : Nat) : popc (2 * q) = popc q := by
  induction q using Nat.strongRecOn with
  | _ q ih =>
    by_cases h : q = 0
    · subst h; rfl
    · rw [popc_pos (n := 2 * q) (by omega), and_even q (by omega), ih _ (Nat.lt_of_le_of_lt Nat.and_le_right (by omega)), ← popc_pos h]
theorem popc_odd (q : Nat) : popc (2 * q + 1) = 1 + popc q := by
  rw [popc_pos (by omega), and_odd, popc_even]
theorem popc_step (n : Nat) : popc n = n % 2 + popc (n / 2) := by
  rcases Nat.mod_two_eq_zero_or_one n with h | h
  · have e : n = 2 * (n / 2) := by omega
    conv => lhs; rw [e]
    rw [popc_even]; omega
  · have e : n = 2 * (n / 2) + 1 := by omega
    conv => lhs; rw [e]
    rw [popc_odd]; omega
theorem popc_le (n : Nat) : popc n ≤ n := by
  induction n using Nat.strongRecOn with
  | _ n ih =>
    by_cases h : n = 0
    · subst h; simp [popc_zero]
    · have := ih (n &&& (n - 1)) (Nat.lt_of_le_of_lt Nat.and_le_right (by omega))
      have h2 : n &&& (n - 1) ≤ n - 1 := Nat.and_le_right
      rw [popc_pos h]
      omega
theorem popc_bits (k : Nat) : ∀ n, n < 2 ^ k → popc n ≤ k := by
  induction k with
  | zero => intro n h; have : n = 0 := by simpa using h
            subst this; simp [popc_zero]
  | succ k ih =>
    intro n h
    have := ih (n / 2) (by rw [Nat.pow_succ] at h; omega)
    rw [popc_step]
    omega
end Go.Proofs.Ytblhbfniomlfkaa
