/- The level of two cells, by both roads. -/
import Derived.Test.YtblhbfniomlfkaaAwake13
namespace Go.Proofs.Ytblhbfniomlfkaa
open Go.RowKit

theorem half_mono {l : Nat} : halfN (l : Int) ≤ halfN ((l + 1 : Nat) : Int) := by
  unfold halfN
  exact Nat.pow_le_pow_right (by omega) (by unfold hExp; omega)
theorem insB_up {l : Nat} {a b : Int} (h : insB l a b = true) : insB ((l + 1 : Nat) : Int) a b = true := by
  rw [insB_iff] at h ⊢
  have := half_mono (l := l)
  unfold insP at h ⊢
  omega
theorem insB_le {l m : Nat} {a b : Int} (hm : l ≤ m) (h : insB l a b = true) : insB m a b = true := by
  induction m with
  | zero => have : l = 0 := by omega
            subst this; exact h
  | succ m ih =>
    by_cases e : l = m + 1
    · subst e; exact h
    · exact insB_up (ih (by omega))

/-- What stands the least. -/
theorem least_is {f : Int → Bool} (n : Nat) (h : n ≤ 44) : (least f n < 44 → f (least f n) = true) ∧ ∀ m : Nat, n ≤ m → m < least f n → f m = false := by
  induction hk : 44 - n generalizing n with
  | zero =>
    have : n = 44 := by omega
    subst this
    have e : least f 44 = 44 := by unfold least; rw [dif_neg (by omega)]
    rw [e]
    exact ⟨by omega, fun m h1 h2 => by omega⟩
  | succ k ih =>
    cases hf : f n with
    | true => rw [least_at (by omega) hf]; exact ⟨fun _ => hf, fun m h1 h2 => by omega⟩
    | false =>
      rw [least_up (by omega) hf]
      obtain ⟨i1, i2⟩ := ih (n + 1) (by omega) (by omega)
      refine ⟨i1, fun m h1 h2 => ?_⟩
      by_cases e : m = n
      · subst e; exact hf
      · exact i2 m (by omega) h2
theorem least_eq {f : Int → Bool} {n r : Nat} (h : n ≤ 44) (h1 : n ≤ r) (h2 : r ≤ 44) (h3 : r < 44 → f r = true) (h4 : ∀ m : Nat, n ≤ m → m < r → f m = false) : least f n = r := by
  obtain ⟨l1, l2⟩ := least_le f n h
  obtain ⟨i1, i2⟩ := least_is (f := f) n h
  by_cases e : least f n < r
  · have := h4 _ l1 e
    rw [i1 (by omega)] at this
    cases this
  · by_cases e2 : r < least f n
    · have := i2 r h1 e2
      rw [h3 (by omega)] at this
      cases this
    · omega

/-- Cell after cell, or the box at once. -/
theorem level_two (a b c d : Int) : levelOf [⟨a, b, 0⟩, ⟨c, d, 0⟩] = least (fun l => inBox l a b c d) 3 := by
  show least (fun k => insB k c d) (least (fun k => insB k a b) 3) = _
  obtain ⟨l1, l2⟩ := least_le (fun k => insB k a b) 3 (by omega)
  obtain ⟨i1, i2⟩ := least_is (f := fun k => insB k a b) 3 (by omega)
  generalize least (fun k => insB k a b) 3 = x at *
  obtain ⟨m1, m2⟩ := least_le (fun k => insB k c d) x (by omega)
  obtain ⟨j1, j2⟩ := least_is (f := fun k => insB k c d) x (by omega)
  generalize least (fun k => insB k c d) x = y at *
  symm
  refine least_eq (by omega) (by omega) m2 (fun hy => ?_) (fun m hm hy => ?_)
  · show (insB y a b && insB y c d) = true
    rw [insB_le m1 (i1 (by omega)), j1 hy]
    rfl
  · show (insB m a b && insB m c d) = false
    by_cases e : m < x
    · rw [i2 m hm e]; rfl
    · have := j2 m (by omega) hy
      rw [this, Bool.and_false]
end Go.Proofs.Ytblhbfniomlfkaa
