/- tree.origin, tree.quarter. -/
import Derived.Test.YtblhbfniomlfkaaBox
namespace Go.Proofs.Ytblhbfniomlfkaa
open Go.RowKit

theorem origin_any (l : Int) (w : World) (h : I64 l) : Calls Try.prog 61 #[.int .i64 l] w fun e w' => e = .returned (.agg #[.int .i64 (-(halfN l : Int)), .int .i64 (-(halfN l : Int))]) ∧ Only (fun _ => False) w w' := by
  have hh := fun W => tHalf_any l W h
  have hle := halfN_le l
  generalize halfN l = n at *
  have HH := Lib.hid hh
  clear hh
  go_enter Try.func61, Try.ntmps61
  go_wp2_with (go_at_call 18; refine (HH.out _).mono ?_; rintro e w' ⟨rfl, rfl⟩)
  exact bodyPost_ret (v := .agg #[.int .i64 (-(n : Int)), .int .i64 (-(n : Int))]) (by simp [results, go_sem]) rfl ⟨rfl, (Only.refl _ _).alloc _⟩

/-- Is a number in the upper half? -/
def up (h low p : Int) : Nat := if low + h ≤ p then 1 else 0
theorem up_lt (h low p : Int) : up h low p < 2 := by unfold up; split <;> omega

def QuarterPost (h a b x y : Int) (w : World) (e : Ending) (w' : World) : Prop :=
  e = .returned (.tuple #[.int .i64 (up h a x + 2 * up h b y : Nat), .agg #[.int .i64 (a + h * up h a x), .int .i64 (b + h * up h b y)]]) ∧ Only (fun _ => False) w w'

set_option maxRecDepth 100000 in
set_option maxHeartbeats 1000000 in
theorem quarter_any (l : Nat) (a b x y : Int) (w : World) (hl : 1 ≤ l) (hl' : l ≤ 44) (ha : -8796093022208 ≤ a ∧ a ≤ 8796093022208) (hb : -8796093022208 ≤ b ∧ b ≤ 8796093022208) :
    Calls Try.prog 69 #[.int .i64 l, .agg #[.int .i64 a, .int .i64 b], .agg #[.int .i64 x, .int .i64 y]] w (QuarterPost (2 ^ (l - 1) : Nat) a b x y w) := by
  have hp : 2 ^ (l - 1) ≤ 8796093022208 := Nat.pow_le_pow_right (by omega) (by omega : l - 1 ≤ 43)
  obtain ⟨k, rfl⟩ : ∃ k, l = k + 1 := ⟨l - 1, by omega⟩
  rw [Nat.add_sub_cancel] at hp ⊢
  have hw : wrap64 (2 ^ k) = ((2 ^ k : Nat) : Int) := by
    have : ((2 ^ k : Nat) : Int) = (2 : Int) ^ k := by simp
    rw [← this]
    exact wrap_nat (by omega)
  obtain ⟨h, hh⟩ : ∃ h : Nat, h = 2 ^ k := ⟨_, rfl⟩
  rw [← hh] at hp hw ⊢
  have hk : (k : Int) ≤ 43 := by omega
  clear hh
  have hend : ∀ W, Only (fun _ => False) w W → ∀ i a' b' : Int, i = (up h a x + 2 * up h b y : Nat) → a' = a + h * up h a x → b' = b + h * up h b y → QuarterPost h a b x y w (.returned (.tuple #[.int .i64 i, .agg #[.int .i64 a', .int .i64 b']])) W := fun W ho i a' b' h1 h2 h3 => by subst h1 h2 h3; exact ⟨rfl, ho⟩
  have HEND := Lib.hid hend
  clear hend
  by_cases hx : a + h ≤ x
  · by_cases hy : b + h ≤ y
    ·
      have u1 : up h a x = 1 := by unfold up; rw [if_pos hx]
      have u2 : up h b y = 1 := by unfold up; rw [if_pos hy]
      have U1 := Lib.hid u1
      have U2 := Lib.hid u2
      clear u1 u2
      go_enter Try.func69, Try.ntmps69
      go_wp2_with fail
      go_region
      go_wp2_with fail
      go_region
      go_wp2_with fail
      go_region
      go_wp2_with fail
      exact bodyPost_ret (v := .tuple #[.int .i64 3, .agg #[.int .i64 (a + (h : Int)), .int .i64 (b + (h : Int))]]) (by simp [results, go_sem]) rfl (HEND.out _ ((((Only.refl _ _).alloc _).alloc _).alloc _).drew.drew.drew _ _ _ (by rw [U1.out, U2.out]; rfl) (by rw [U1.out]; simp) (by rw [U2.out]; simp))
    ·
      have u1 : up h a x = 1 := by unfold up; rw [if_pos hx]
      have u2 : up h b y = 0 := by unfold up; rw [if_neg hy]
      have U1 := Lib.hid u1
      have U2 := Lib.hid u2
      clear u1 u2
      go_enter Try.func69, Try.ntmps69
      go_wp2_with fail
      go_region
      go_wp2_with fail
      go_region
      go_wp2_with fail
      exact bodyPost_ret (v := .tuple #[.int .i64 1, .agg #[.int .i64 (a + (h : Int)), .int .i64 b]]) (by simp [results, go_sem]) rfl (HEND.out _ ((((Only.refl _ _).alloc _).alloc _).alloc _).drew.drew _ _ _ (by rw [U1.out, U2.out]; rfl) (by rw [U1.out]; simp) (by rw [U2.out]; simp))
  · by_cases hy : b + h ≤ y
    ·
      have u1 : up h a x = 0 := by unfold up; rw [if_neg hx]
      have u2 : up h b y = 1 := by unfold up; rw [if_pos hy]
      have U1 := Lib.hid u1
      have U2 := Lib.hid u2
      clear u1 u2
      go_enter Try.func69, Try.ntmps69
      go_wp2_with fail
      go_region
      go_wp2_with fail
      go_region
      go_wp2_with fail
      exact bodyPost_ret (v := .tuple #[.int .i64 2, .agg #[.int .i64 a, .int .i64 (b + (h : Int))]]) (by simp [results, go_sem]) rfl (HEND.out _ ((((Only.refl _ _).alloc _).alloc _).alloc _).drew.drew _ _ _ (by rw [U1.out, U2.out]; rfl) (by rw [U1.out]; simp) (by rw [U2.out]; simp))
    ·
      have u1 : up h a x = 0 := by unfold up; rw [if_neg hx]
      have u2 : up h b y = 0 := by unfold up; rw [if_neg hy]
      have U1 := Lib.hid u1
      have U2 := Lib.hid u2
      clear u1 u2
      go_enter Try.func69, Try.ntmps69
      go_wp2_with fail
      go_region
      go_wp2_with fail
      exact bodyPost_ret (v := .tuple #[.int .i64 0, .agg #[.int .i64 a, .int .i64 b]]) (by simp [results, go_sem]) rfl (HEND.out _ ((((Only.refl _ _).alloc _).alloc _).alloc _).drew _ _ _ (by rw [U1.out, U2.out]; rfl) (by rw [U1.out]; simp) (by rw [U2.out]; simp))
end Go.Proofs.Ytblhbfniomlfkaa
