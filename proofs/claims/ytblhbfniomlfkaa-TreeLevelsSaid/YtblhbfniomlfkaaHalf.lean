/- tree.Half, tree.Inside and the document's. -/
import Derived.Test.YtblhbfniomlfkaaMem
import Derived.Deep.Light
namespace Go.Proofs.Ytblhbfniomlfkaa
open Go.RowKit

/-- Half of a level. -/
def hExp (l : Int) : Nat := (min (max l 1) 44).toNat - 1
def halfN (l : Int) : Nat := 2 ^ hExp l
theorem hExp_le (l : Int) : hExp l ≤ 43 := by unfold hExp; omega
theorem halfN_pos (l : Int) : 1 ≤ halfN l := Nat.one_le_two_pow
theorem halfN_le (l : Int) : halfN l ≤ 8796093022208 := Nat.pow_le_pow_right (by omega) (hExp_le l)
theorem halfN_hi {l : Int} (h : 44 ≤ l) : halfN l = 8796093022208 := by
  have : hExp l = 43 := by unfold hExp; omega
  unfold halfN; rw [this]
theorem halfN_lo {l : Int} (h : l ≤ 1) : halfN l = 1 := by
  have : hExp l = 0 := by unfold hExp; omega
  unfold halfN; rw [this]
theorem halfN_mid {l : Int} (h : 1 ≤ l) (h' : l ≤ 44) : halfN l = 2 ^ (l.toNat - 1) := by
  have : hExp l = l.toNat - 1 := by unfold hExp; omega
  unfold halfN; rw [this]
theorem ret_i64 {a b : Int} (h : a = b) : Ending.returned (.int .i64 a) = .returned (.int .i64 b) := by rw [h]
theorem wrap_nat {p : Nat} (h : p ≤ 9223372036854775807) : wrap64 (p : Int) = (p : Int) := IntWalk.wrap64_in _ (by omega)

theorem tHalf_any (l : Int) (w : World) (h : -9223372036854775808 ≤ l ∧ l ≤ 9223372036854775807) : Calls Try.prog 18 #[.int .i64 l] w fun e w' => e = .returned (.int .i64 (halfN l)) ∧ w = w' := by
  by_cases h1 : l < 1
  · go_enter Try.func18, Try.ntmps18
    go_wp2
    go_ret
    exact ⟨ret_i64 (by rw [halfN_lo (by omega)]; rfl), rfl⟩
  · by_cases h2 : 44 < l
    · go_enter Try.func18, Try.ntmps18
      go_wp2
      go_ret
      exact ⟨ret_i64 (by rw [halfN_hi (by omega)]; rfl), rfl⟩
    · have hq := halfN_mid (l := l) (by omega) (by omega)
      have hle := halfN_le l
      have HQ := Lib.hid hq
      clear hq
      go_enter Try.func18, Try.ntmps18
      go_wp2
      go_ret
      refine ⟨ret_i64 ?_, rfl⟩
      have e : (2 : Int) ^ (l.toNat - 1) = ((halfN l : Nat) : Int) := by rw [HQ.out]; simp
      rw [e]
      exact wrap_nat (by omega)

theorem pow_step {i : Nat} : 2 * ((2 ^ i : Nat) : Int) = ((2 ^ (i + 1) : Nat) : Int) := by rw [Nat.pow_succ]; omega

theorem rHalf_any (l : Int) (w : World) (h : -9223372036854775808 ≤ l ∧ l ≤ 9223372036854775807) : Calls Try.prog 19 #[.int .i64 l] w fun e w' => e = .returned (.int .i64 (halfN l)) ∧ w = w' := by
  go_enter Try.func19, Try.ntmps19
  go_wp2
  go_loop [3, 4] (fun v c => ∃ i : Nat, c = .int .i64 (i + 1 : Nat) ∧ v = .int .i64 (2 ^ i : Nat) ∧ i ≤ hExp l) (fun _ c => 44 - (intOf c).toNat)
  case atStart => exact ⟨0, rfl, rfl, by omega⟩
  case round =>
    obtain ⟨i, rfl, rfl, hi⟩ := hrel
    have hle := hExp_le l
    have hp : (2 ^ i : Nat) ≤ 8796093022208 := Nat.pow_le_pow_right (by omega) (by omega : i ≤ 43)
    by_cases hlt : i < hExp l
    · have h1 : ((i + 1 : Nat) : Int) < l := by unfold hExp at hlt; omega
      have h2 : ((i + 1 : Nat) : Int) < 44 := by omega
      have hs := pow_step (i := i)
      obtain ⟨p, hpp⟩ : ∃ p, p = 2 ^ i := ⟨_, rfl⟩
      rw [← hpp] at hp hs ⊢
      have HS := Lib.hid hs
      clear hs hpp
      go_wp2
      go_round
      case rel => exact ⟨i + 1, by go_num, by rw [← HS.out], hlt⟩
      case measure => simp [intOf]; omega
    · have hd : ((i + 1 : Nat) : Int) < l ∧ ¬ ((i + 1 : Nat) : Int) < 44 ∨ ¬ ((i + 1 : Nat) : Int) < l := by unfold hExp at hlt hi; omega
      have hfin : i = hExp l := by omega
      have HF := Lib.hid hfin
      clear hfin
      rcases hd with ⟨h1, h2⟩ | h1
      · go_wp2
        go_ret
        exact ⟨ret_i64 (by unfold halfN; rw [HF.out]; simp), rfl⟩
      · go_wp2
        go_ret
        exact ⟨ret_i64 (by unfold halfN; rw [HF.out]; simp), rfl⟩

/-- Is a point inside? -/
def insP (l a b : Int) : Prop := -(halfN l : Int) ≤ a ∧ a < halfN l ∧ -(halfN l : Int) ≤ b ∧ b < halfN l
instance (l a b : Int) : Decidable (insP l a b) := by unfold insP; infer_instance
def insB (l a b : Int) : Bool := decide (insP l a b)

theorem tInside_any (l a b : Int) (w : World) (h : -9223372036854775808 ≤ l ∧ l ≤ 9223372036854775807) :
    Calls Try.prog 20 #[.int .i64 l, .agg #[.int .i64 a, .int .i64 b]] w fun e w' => e = .returned (.bool (insB l a b)) ∧ Only (fun _ => False) w w' := by
  have hh := fun W => tHalf_any l W h
  have hle := halfN_le l
  have hpos := halfN_pos l
  have hb : insB l a b = decide (-(halfN l : Int) ≤ a ∧ a < halfN l ∧ -(halfN l : Int) ≤ b ∧ b < halfN l) := rfl
  rw [hb]
  clear hb
  generalize halfN l = n at *
  have HH := Lib.hid hh
  clear hh
  by_cases c1 : -(n : Int) ≤ a
  · by_cases c2 : a < n
    · by_cases c3 : -(n : Int) ≤ b
      · by_cases c4 : b < n
        · rw [show decide (-(n : Int) ≤ a ∧ a < n ∧ -(n : Int) ≤ b ∧ b < n) = true from by simp; omega]
          go_enter Try.func20, Try.ntmps20
          go_wp2_with (go_at_call 18; refine (HH.out _).mono ?_; rintro e w' ⟨rfl, rfl⟩)
          go_ret
          exact ⟨rfl, (Only.refl _ _).alloc _⟩
        · rw [show decide (-(n : Int) ≤ a ∧ a < n ∧ -(n : Int) ≤ b ∧ b < n) = false from by simp; omega]
          have c4' : decide (b < (n : Int)) = false := by simp; omega
          go_enter Try.func20, Try.ntmps20
          go_wp2_with (go_at_call 18; refine (HH.out _).mono ?_; rintro e w' ⟨rfl, rfl⟩)
          go_ret
          exact ⟨rfl, (Only.refl _ _).alloc _⟩
      · rw [show decide (-(n : Int) ≤ a ∧ a < n ∧ -(n : Int) ≤ b ∧ b < n) = false from by simp; omega]
        go_enter Try.func20, Try.ntmps20
        go_wp2_with (go_at_call 18; refine (HH.out _).mono ?_; rintro e w' ⟨rfl, rfl⟩)
        go_ret
        exact ⟨rfl, (Only.refl _ _).alloc _⟩
    · rw [show decide (-(n : Int) ≤ a ∧ a < n ∧ -(n : Int) ≤ b ∧ b < n) = false from by simp; omega]
      go_enter Try.func20, Try.ntmps20
      go_wp2_with (go_at_call 18; refine (HH.out _).mono ?_; rintro e w' ⟨rfl, rfl⟩)
      go_ret
      exact ⟨rfl, (Only.refl _ _).alloc _⟩
  · rw [show decide (-(n : Int) ≤ a ∧ a < n ∧ -(n : Int) ≤ b ∧ b < n) = false from by simp; omega]
    go_enter Try.func20, Try.ntmps20
    go_wp2_with (go_at_call 18; refine (HH.out _).mono ?_; rintro e w' ⟨rfl, rfl⟩)
    go_ret
    exact ⟨rfl, (Only.refl _ _).alloc _⟩

theorem rInside_any (l a b : Int) (w : World) (h : -9223372036854775808 ≤ l ∧ l ≤ 9223372036854775807) (ha : -9223372036854775807 ≤ a ∧ a ≤ 9223372036854775807) (hb : -9223372036854775807 ≤ b ∧ b ≤ 9223372036854775807) :
    Calls Try.prog 21 #[.int .i64 l, .int .i64 a, .int .i64 b] w fun e w' => e = .returned (.bool (insB l a b)) ∧ w = w' := by
  have hh := fun W => rHalf_any l W h
  have hle := halfN_le l
  have hpos := halfN_pos l
  have he : insB l a b = decide (-(halfN l : Int) ≤ a ∧ a < halfN l ∧ -(halfN l : Int) ≤ b ∧ b < halfN l) := rfl
  rw [he]
  clear he
  generalize halfN l = n at *
  have HH := Lib.hid hh
  clear hh
  by_cases c1 : a < n
  · by_cases c2 : b < n
    · by_cases c3 : -a ≤ (n : Int)
      · by_cases c4 : -b ≤ (n : Int)
        · rw [show decide (-(n : Int) ≤ a ∧ a < n ∧ -(n : Int) ≤ b ∧ b < n) = true from by simp; omega]
          go_enter Try.func21, Try.ntmps21
          go_wp2_with (go_at_call 19; refine (HH.out _).mono ?_; rintro e w' ⟨rfl, rfl⟩)
          go_ret
          exact ⟨rfl, rfl⟩
        · rw [show decide (-(n : Int) ≤ a ∧ a < n ∧ -(n : Int) ≤ b ∧ b < n) = false from by simp; omega]
          have c4' : decide (-b ≤ (n : Int)) = false := by simp; omega
          go_enter Try.func21, Try.ntmps21
          go_wp2_with (go_at_call 19; refine (HH.out _).mono ?_; rintro e w' ⟨rfl, rfl⟩)
          go_ret
          exact ⟨rfl, rfl⟩
      · rw [show decide (-(n : Int) ≤ a ∧ a < n ∧ -(n : Int) ≤ b ∧ b < n) = false from by simp; omega]
        go_enter Try.func21, Try.ntmps21
        go_wp2_with (go_at_call 19; refine (HH.out _).mono ?_; rintro e w' ⟨rfl, rfl⟩)
        go_ret
        exact ⟨rfl, rfl⟩
    · rw [show decide (-(n : Int) ≤ a ∧ a < n ∧ -(n : Int) ≤ b ∧ b < n) = false from by simp; omega]
      go_enter Try.func21, Try.ntmps21
      go_wp2_with (go_at_call 19; refine (HH.out _).mono ?_; rintro e w' ⟨rfl, rfl⟩)
      go_ret
      exact ⟨rfl, rfl⟩
  · rw [show decide (-(n : Int) ≤ a ∧ a < n ∧ -(n : Int) ≤ b ∧ b < n) = false from by simp; omega]
    go_enter Try.func21, Try.ntmps21
    go_wp2_with (go_at_call 19; refine (HH.out _).mono ?_; rintro e w' ⟨rfl, rfl⟩)
    go_ret
    exact ⟨rfl, rfl⟩
end Go.Proofs.Ytblhbfniomlfkaa
