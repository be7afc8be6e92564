/- honeycombref09: bit, State, States. -/
import Derived.Test.YtblhbfniomlfkaaRef12
namespace Go.Proofs.Ytblhbfniomlfkaa
open Go.RowKit

def bitAt (f n : Nat) : Nat := f / 2 ^ n % 2
def stAt (f i : Nat) : Nat := bitAt f (2 * i) + 2 * bitAt f (2 * i + 1)
theorem bitAt_lt (f n : Nat) : bitAt f n < 2 := Nat.mod_lt _ (by omega)

theorem bit_any (f n : Nat) (w : World) (hf : f < 4294967296) (hn : n < 64) : Calls Try.prog 81 #[.int .u32 f, .int .i64 n] w fun e w' => e = .returned (.int .i64 (bitAt f n)) ∧ w = w' := by
  go_enter Try.func81, Try.ntmps81
  go_wp2
  go_loop [0, 5] (fun x c => ∃ (i m : Nat), c = .int .i64 i ∧ i ≤ n ∧ m = f / 2 ^ i ∧ m < 4294967296 ∧ x = .int .u32 m) (fun _ c => n - (intOf c).toNat)
  case atStart => exact ⟨0, f, rfl, by omega, by simp, hf, rfl⟩
  case round =>
    obtain ⟨i, m, rfl, hi, hm, hml, rfl⟩ := hrel
    have Hm := Lib.hid hm
    clear hm
    by_cases h : i < n
    · go_wp2
      go_round
      case rel => exact ⟨i + 1, m / 2, by go_num, h, by rw [Hm.out, Nat.pow_succ, Nat.div_div_eq_div_mul], by omega, by go_num⟩
      case measure => simp [intOf]; omega
    · obtain rfl : i = n := by omega
      go_wp2
      go_ret
      exact ⟨by rw [bitAt, ← Hm.out]; rfl, rfl⟩

theorem State_any (f a b : Nat) (w : World) (hf : f < 4294967296) (ha : a < 4) (hb : b < 4) : Calls Try.prog 76 #[.int .u32 f, .int .i64 a, .int .i64 b] w fun e w' => e = .returned (.int .i64 (stAt f (4 * b + a) : Nat)) ∧ w = w' := by
  have e1 : ((8 * b + 2 * a : Nat) : Int) = 8 * (b : Int) + 2 * (a : Int) := by omega
  have e2 : ((8 * b + 2 * a + 1 : Nat) : Int) = 8 * (b : Int) + 2 * (a : Int) + 1 := by omega
  have h1 := bit_any f (8 * b + 2 * a) w hf (by omega)
  have h2 := bit_any f (8 * b + 2 * a + 1) w hf (by omega)
  have l1 := bitAt_lt f (8 * b + 2 * a)
  have l2 := bitAt_lt f (8 * b + 2 * a + 1)
  have es : stAt f (4 * b + a) = bitAt f (8 * b + 2 * a) + 2 * bitAt f (8 * b + 2 * a + 1) := by
    unfold stAt
    rw [show 2 * (4 * b + a) = 8 * b + 2 * a by omega]
  rw [e1] at h1
  rw [e2] at h2
  rw [es]
  generalize bitAt f (8 * b + 2 * a) = x at *
  generalize bitAt f (8 * b + 2 * a + 1) = y at *
  have H1 := Lib.hid h1
  have H2 := Lib.hid h2
  clear h1 h2 es e1 e2
  go_enter Try.func76, Try.ntmps76
  go_wp2_with fail
  refine (H1.out).mono ?_
  rintro e w' ⟨rfl, rfl⟩
  go_wp2_with fail
  refine (H2.out).mono ?_
  rintro e w' ⟨rfl, rfl⟩
  go_wp2
  go_ret
  exact ⟨by congr 2, rfl⟩

def stList (f n : Nat) : List Nat := (List.range n).map (stAt f)
theorem stList_succ (f n : Nat) : stList f (n + 1) = stList f n ++ [stAt f n] := by simp [stList, List.range_succ]
theorem stList_length (f n : Nat) : (stList f n).length = n := by simp [stList]

structure StRel (f : Nat) (w : World) (n : Nat) (v : Value) (wr : World) : Prop where
  row : wr.ownsRow 0 3 1 v (stList f n).length (nums .i64 (stList f n))
  only : Only (fun _ => False) w wr
  new : ∀ k, v.ownBlock = some k → w.heap.size ≤ k

theorem empty_ints (w : World) : (w.alloc (.cells #[] 3)).ownsRow 0 3 1 (.slice (some ⟨w.heap.size, 0, none⟩) 0 0) 0 [] :=
  World.ownsRow_lit w (base := 0) (e := 3) (size := 1) #[] 0 (Nat.zero_le _) (by unfold maxLen; omega) rfl

set_option maxHeartbeats 1000000 in
theorem States_any (f : Nat) (w : World) (hf : f < 4294967296) : Calls Try.prog 65 #[.int .u32 f] w fun e w' => ∃ v, e = .returned v ∧ StRel f w 16 v w' := by
  have hst := fun a b w ha hb => State_any f a b w hf ha hb
  have HST := Lib.hid hst
  clear hst
  go_enter Try.func65, Try.ntmps65
  go_wp2
  go_loopw [3, 4] (fun v c wr => ∃ (b : Nat) (vo : Value), c = .int .i64 b ∧ vo = v ∧ b ≤ 4 ∧ StRel f w (4 * b) vo wr) (fun _ c _ => 4 - (intOf c).toNat)
  case atStart => exact ⟨0, _, rfl, rfl, by omega, empty_ints w, (Only.refl _ _).alloc _, fun k hk => by
    have : w.heap.size = k := by simpa [Value.ownBlock] using hk
    omega⟩
  case round =>
    obtain ⟨b, vo, rfl, rfl, hb, hR⟩ := hrel
    have HR := Lib.hid hR
    clear hR
    by_cases hb4 : b < 4
    · have hd : ((b : Int) < 4) = True := by simp; omega
      go_wp2
      go_loopw [3, 5] (fun v c wr => ∃ (a : Nat) (vi : Value), c = .int .i64 a ∧ vi = v ∧ a ≤ 4 ∧ StRel f w (4 * b + a) vi wr) (fun _ c _ => 4 - (intOf c).toNat)
      case atStart => exact ⟨0, _, rfl, rfl, by omega, HR.out⟩
      case round =>
        obtain ⟨a, vi, rfl, rfl, ha, hI⟩ := hrel
        by_cases ha4 : a < 4
        · have hs := HST.out a b wr ha4 hb4
          have hl := stList_length f (4 * b + a)
          have hown := hI.row.alloc (.cells #[.int .i64 (stAt f (4 * b + a) : Nat)] 3)
          have HS := Lib.hid hs
          have HI := Lib.hid hI
          have HOW := Lib.hid hown
          clear hs hI hown
          go_wp2_with (first
            | (go_at_call 76; refine (HS.out).mono ?_; rintro e w' ⟨rfl, rfl⟩)
            | (at_builtin; refine wp_push _ rfl _ _ 24 rfl 3 .i64 8 int_info (by omega) Try.underlying24 0 vi (stList f (4 * b + a)) rfl HOW.out (by omega) (by omega) wr.heap.size (stAt f (4 * b + a)) rfl (Blk.new _ _ _) ?_; intro g' cp w4 hr4 hg4 hat4 hlt4)
            | fail)
          go_roundw
          case rel =>
            go_light
            rw [← stList_succ, hl] at hr4
            refine ⟨a + 1, _, by go_num, rfl, ha4, ?_, ?_, ?_⟩
            · exact hr4
            · exact (HI.out.only.alloc _).grown hg4 (fun k hk _ => by have := HI.out.new k hk; omega)
            · intro k hk
              have hk' : g' = k := by simpa [Value.ownBlock] using hk
              subst hk'
              rcases hat4 with h | h
              · exact HI.out.new g' h
              · rw [World.size_alloc] at h; have := HI.out.only.size; omega
          case measure => simp [intOf]; omega
        · obtain rfl : a = 4 := by omega
          go_wp2
          go_roundw
          case rel =>
            go_light
            exact ⟨b + 1, vi, by go_num, rfl, hb4, hI⟩
          case measure => simp [intOf]; omega
    · obtain rfl : b = 4 := by omega
      go_wp2
      go_ret
      exact ⟨vo, rfl, HR.out⟩
end Go.Proofs.Ytblhbfniomlfkaa
