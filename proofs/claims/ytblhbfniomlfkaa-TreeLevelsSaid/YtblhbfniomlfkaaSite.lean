/- site: Low, State, Put, With. -/
import Derived.Test.YtblhbfniomlfkaaSiteP
import Derived.Deep.QuietTactic
import Derived.BigQuiet
namespace Go.Proofs.Ytblhbfniomlfkaa
open Go.RowKit

theorem Low_any (a b : Int) (w : World) (ha : I64 a) (hb : I64 b) : Calls Try.prog 26 #[.agg #[.int .i64 a, .int .i64 b]] w fun e w' => e = .returned (.agg #[.int .i64 (low4 a), .int .i64 (low4 b)]) ∧ Only (fun _ => False) w w' := by
  have h1 := andNot3 a ha
  have h2 := andNot3 b hb
  go_enter Try.func26, Try.ntmps26
  go_wp2
  exact bodyPost_ret (v := .agg #[.int .i64 (low4 a), .int .i64 (low4 b)]) (by simp [results, go_sem, low4]) rfl ⟨rfl, ((Only.refl _ _).alloc _).alloc _⟩

theorem leafState_any (f a b : Nat) (w : World) (ha : a < 4) (hb : b < 4) (hf : f < 4294967296) : Calls Try.prog 52 #[.int .u32 f, .int .i64 a, .int .i64 b] w fun e w' => e = .returned (.int .i64 (f / 2 ^ (2 * (4 * b + a)) % 4 : Nat)) ∧ w = w' := by
  have h3 := and3 (f / 2 ^ (2 * (4 * b + a))) (Nat.lt_of_le_of_lt (Nat.div_le_self _ _) hf)
  have hq : f / 2 ^ (2 * (4 * b + a)) ≤ f := Nat.div_le_self _ _
  have hw : wrap64 ((f : Int) / 2 ^ (2 * (4 * b + a))) = ((f / 2 ^ (2 * (4 * b + a)) : Nat) : Int) := by
    have : ((f / 2 ^ (2 * (4 * b + a)) : Nat) : Int) = (f : Int) / 2 ^ (2 * (4 * b + a)) := by simp
    rw [← this]
    generalize f / 2 ^ (2 * (4 * b + a)) = q at hq ⊢
    exact IntWalk.wrap64_in _ (by omega)
  have H := Lib.hid (show bits .and .i64 (wrap64 ((f : Int) / 2 ^ (2 * (4 * b + a)))) 3 = ((f / 2 ^ (2 * (4 * b + a)) % 4 : Nat) : Int) from by rw [hw]; exact h3)
  have a1 : ¬ (a : Int) < 0 := by omega
  have a2 : ¬ (4 : Int) ≤ (a : Int) := by omega
  have b1 : ¬ (b : Int) < 0 := by omega
  have b2 : ¬ (4 : Int) ≤ (b : Int) := by omega
  clear h3 hq hw
  go_enter Try.func52, Try.ntmps52
  go_wp2
  go_ret
  exact ⟨ret_i64 H.out, rfl⟩

theorem ret_u32 {a b : Int} (h : a = b) : Ending.returned (.int .u32 a) = .returned (.int .u32 b) := by rw [h]

theorem leafPut_any (f a b s : Nat) (w : World) (ha : a < 4) (hb : b < 4) (hf : f < 4294967296) (hs : s < 4) : Calls Try.prog 51 #[.int .u32 f, .int .i64 a, .int .i64 b, .int .i64 s] w fun e w' => e = .returned (.int .u32 (putW f (4 * b + a) s)) ∧ ∃ n, w' = w.drewN n := by
  have h3 : bits .and .i64 (s : Int) 3 = (s : Int) := by rw [and3 s (by omega)]; congr 1; exact Nat.mod_eq_of_lt hs
  have H := Lib.hid (putW_run f (4 * b + a) s hf (by omega) hs)
  have a1 : ¬ (a : Int) < 0 := by omega
  have a2 : ¬ (4 : Int) ≤ (a : Int) := by omega
  have b1 : ¬ (b : Int) < 0 := by omega
  have b2 : ¬ (4 : Int) ≤ (b : Int) := by omega
  go_enter Try.func51, Try.ntmps51
  go_wp2_with fail
  go_quiet (fail)
  go_wp2
  go_ret
  exact ⟨ret_u32 H.out, _, rfl⟩

def WithPost (f : Nat) (a b : Int) (h : Nat) (w : World) (e : Ending) (w' : World) : Prop := e = .returned (.int .u32 (withN f (plc a b) h : Nat)) ∧ Only (fun _ => False) w w'

theorem with_end {f h : Nat} {a b : Int} {w w' : World} {s : Nat} (hf : f < 4294967296) (hh : h < 2) (hs : s = f / 2 ^ (2 * (4 * (b % 4).toNat + (a % 4).toNat)) % 4 ||| 2 ^ h) (ho : Only (fun _ => False) w w') :
    WithPost f a b h w (.returned (.int .u32 (putW f (4 * (b % 4).toNat + (a % 4).toNat) s : Nat))) w' := by
  refine ⟨?_, ho⟩
  rw [hs]
  have := with_eq f (4 * (b % 4).toNat + (a % 4).toNat) h hf (by omega) hh
  rw [this]
  rfl

set_option maxHeartbeats 1000000 in
theorem With_any (f : Nat) (a b : Int) (h : Nat) (w : World) (ha : I64 a) (hb : I64 b) (hf : f < 4294967296) (hh : h < 2) :
    Calls Try.prog 55 #[.int .u32 f, .agg #[.int .i64 a, .int .i64 b, .int .i64 h], .bool true] w (WithPost f a b h w) := by
  have hlow := fun W => Low_any a b W ha hb
  have HLOW := Lib.hid hlow
  have e1 : IntKind.i64.wrap (a - low4 a) = (((a % 4).toNat : Nat) : Int) := by unfold low4; rw [IntWalk.i64_in _ (by omega)]; omega
  have e2 : IntKind.i64.wrap (b - low4 b) = (((b % 4).toNat : Nat) : Int) := by unfold low4; rw [IntWalk.i64_in _ (by omega)]; omega
  obtain ⟨x, hx⟩ : ∃ x, x = (a % 4).toNat := ⟨_, rfl⟩
  obtain ⟨y, hy⟩ : ∃ y, y = (b % 4).toNat := ⟨_, rfl⟩
  have hend := fun (W : World) (s : Nat) => with_end (f := f) (h := h) (a := a) (b := b) (w := w) (w' := W) (s := s) hf hh
  rw [← hx, ← hy] at hend
  rw [← hx] at e1
  rw [← hy] at e2
  have hx4 : x < 4 := by omega
  have hy4 : y < 4 := by omega
  have hst := fun W => leafState_any f x y W hx4 hy4 hf
  have hsl : f / 2 ^ (2 * (4 * y + x)) % 4 < 4 := Nat.mod_lt _ (by omega)
  have HEND := Lib.hid hend
  generalize f / 2 ^ (2 * (4 * y + x)) % 4 = st at hst hsl HEND
  have hor := state_or ⟨st, hsl⟩ ⟨h, hh⟩
  have hlt := or_lt4 ⟨st, hsl⟩ ⟨h, hh⟩
  have hput := fun W => leafPut_any f x y (st ||| 2 ^ h) W hx4 hy4 hf hlt
  have HPUT := Lib.hid hput
  have HST := Lib.hid hst
  have HX := Lib.hid hx
  have HY := Lib.hid hy
  clear hlow hst hput hlt hx hy hend
  obtain ⟨s, hs⟩ : ∃ s, s = st ||| 2 ^ h := ⟨_, rfl⟩
  simp only at hor
  rw [← hs] at hor HPUT
  have HS := Lib.hid hs
  clear hs
  have hcs : h = 0 ∨ h = 1 := by omega
  rcases hcs with rfl | rfl
  all_goals
    have hor' := hor
    simp only [Nat.pow_zero, Nat.pow_one, Int.cast_ofNat_Int] at hor'
    clear hor
    go_enter Try.func55, Try.ntmps55
    go_wp2_with fail
    refine (HLOW.out _).mono ?_
    rintro e w1 ⟨rfl, hO⟩
    have hB := (Blk.new w 72 (List.toArray [.int .i64 a, .int .i64 b, _])).only hO (fun h => h)
    have c0 : w1.cell? ⟨w.heap.size, 0, none⟩ = some (.int .i64 a) := hB.cell 0
    have c1 : w1.cell? ⟨w.heap.size, 1, none⟩ = some (.int .i64 b) := hB.cell 1
    have HB := Lib.hid hB
    have hl := hB.lt
    have HO := Lib.hid (((Only.refl (fun _ => False) w).alloc _).trans hO (fun _ _ h => h))
    clear hB hO
    go_wp2_with fail
    go_quiet (fail)
    have hOU := (HO.out.alloc (.cells #[.int .i64 (low4 a), .int .i64 (low4 b)] 49)).drewN nq
    have c2 := ((HB.out.alloc (.cells #[.int .i64 (low4 a), .int .i64 (low4 b)] 49)).drewN nq).cell 2
    simp only [List.getElem?_toArray, List.getElem?_cons_succ, List.getElem?_cons_zero] at c2
    clear c0 c1 hl HO
    generalize World.drewN _ nq = U at hOU c2 ⊢
    have HO := Lib.hid hOU
    clear hOU HB
    go_wp2_with fail
    go_quiet ((go_at_call 52; exact Calls.quiet_of_same ((HST.out _).mono fun _ _ h => ⟨h.1, h.2.symm⟩)))
    go_wp2_with fail
    refine (HPUT.out _).mono ?_
    rintro e w2 ⟨rfl, n2, rfl⟩
    go_wp2_with fail
    go_ret
    exact HEND.out _ s HS.out (HO.out.drewN _)
end Go.Proofs.Ytblhbfniomlfkaa
