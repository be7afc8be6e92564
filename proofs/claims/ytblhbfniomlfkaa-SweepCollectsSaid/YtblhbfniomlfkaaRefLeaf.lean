/- honeycombref12.Leaf. -/
import Derived.Test.YtblhbfniomlfkaaRef09
namespace Go.Proofs.Ytblhbfniomlfkaa
open Go.RowKit

def tAt (f i : Nat) : Nat := stAt f i % 2 + stAt f i / 2
def tSum (f : Nat) : Nat → Nat
  | 0 => 0
  | n + 1 => tSum f n + tAt f n
theorem tAt_eq (f i : Nat) : tAt f i = bitAt f (2 * i) + bitAt f (2 * i + 1) := by
  have h1 := bitAt_lt f (2 * i)
  have h2 := bitAt_lt f (2 * i + 1)
  unfold tAt stAt
  omega
theorem bitAt_shift (f n : Nat) : bitAt f (n + 2) = bitAt (f / 4) n := by
  unfold bitAt
  rw [Nat.pow_add, Nat.mul_comm, ← Nat.div_div_eq_div_mul]
theorem tAt_shift (f n : Nat) : tAt f (n + 1) = tAt (f / 4) n := by
  rw [tAt_eq, tAt_eq, show 2 * (n + 1) = 2 * n + 2 by omega, bitAt_shift, show 2 * n + 2 + 1 = 2 * n + 1 + 2 by omega, bitAt_shift]
theorem tSum_shift (f n : Nat) : tSum f (n + 1) = tAt f 0 + tSum (f / 4) n := by
  induction n with
  | zero => simp [tSum]
  | succ n ih =>
    have e : tSum f (n + 1 + 1) = tSum f (n + 1) + tAt f (n + 1) := rfl
    have e2 : tSum (f / 4) (n + 1) = tSum (f / 4) n + tAt (f / 4) n := rfl
    rw [e, ih, e2, tAt_shift]
    omega
theorem popc_tSum (n : Nat) : ∀ f, f < 4 ^ n → popc f = tSum f n := by
  induction n with
  | zero => intro f hf; have : f = 0 := by simpa using hf
            subst this; rw [popc_zero]; rfl
  | succ n ih =>
    intro f hf
    have h4 : f / 4 < 4 ^ n := by rw [Nat.pow_succ] at hf; omega
    rw [tSum_shift, ← ih _ h4, popc_step f, popc_step (f / 2), tAt_eq, Nat.div_div_eq_div_mul, show 2 * 2 = 4 from rfl]
    simp only [bitAt, Nat.mul_zero, Nat.pow_zero, Nat.div_one, Nat.zero_add, Nat.pow_one]
    omega
theorem tAt_le (f i : Nat) : tAt f i ≤ 2 := by
  rw [tAt_eq]
  have h1 := bitAt_lt f (2 * i)
  have h2 := bitAt_lt f (2 * i + 1)
  omega
theorem tSum_le (f n : Nat) : tSum f n ≤ 2 * n := by
  induction n with
  | zero => simp [tSum]
  | succ n ih => have := tAt_le f n; simp only [tSum]; omega

theorem int_cell {w : World} {g n cap base : Nat} {l : List Nat} (h : w.ownsRow base 3 1 (.slice (some ⟨g, 0, none⟩) n cap) n (nums .i64 l)) {x : Nat} (hx : x < n) (hn : n = l.length) : w.cell? ⟨g, x, none⟩ = some (.int .i64 (l.getD x 0 : Nat)) := by
  subst hn
  rw [h.cellAt x (by omega)]
  simp [nums, hx]

/-- The boxes of Leaf and Join. -/
structure RB (w : World) (v : Value) (most : Int) (W : World) : Prop where
  b0 : Blk W w.heap.size 29 #[v, .int .i64 most]
  only : Only (fun _ => False) w W

set_option maxRecDepth 100000 in
set_option maxHeartbeats 2000000 in
theorem rLeaf_any (ns : List Nd) (v : Value) (most : Int) (f : Nat) (w : World) (hR : RefAt w v ns) (hpos : 0 < ns.length) (hm : (ns.length : Int) < most) (hN : ns.length < 1073741824) (hf : f < 4294967296) :
    Calls Try.prog 40 #[.agg #[v, .int .i64 most], .int .u32 f] w (RAddPost ns most (leafKey f) (popc f) w) := by
  have hpc := popc_tSum 16 f (by simpa using hf)
  have hst := fun w => States_any f w hf
  obtain ⟨ad, cap, hv, _⟩ := own_slice hR
  subst hv
  have hadd : ∀ W, RefAt W (.slice ad ns.length cap) ns → Calls Try.prog 66 #[.agg #[.slice ad ns.length cap, .int .i64 most], .agg #[.int .i64 2, .int .u32 f, .int .i64 0, .int .i64 0, .int .i64 0, .int .i64 0, .int .u64 (popc f)]] W (RAddPost ns most (leafKey f) (popc f) W) := fun W hW =>
    radd_any ns _ most (leafKey f) (popc f) W hW hpos hm hN
  have HADD := Lib.hid hadd
  have HR := Lib.hid hR
  have HST := Lib.hid hst
  have HPC := Lib.hid hpc
  clear hst hR hadd hpc
  go_enter Try.func40, Try.ntmps40
  go_wp2_with fail
  have hB0 : Blk ((w.alloc (.cells #[.slice ad ns.length cap, .int .i64 most] 29)).alloc (.cells #[.slice none 0 0, .int .i64 0] 29)) w.heap.size 29 #[.slice ad ns.length cap, .int .i64 most] := (Blk.new _ _ _).alloc _
  have hB1 : Blk ((w.alloc (.cells #[.slice ad ns.length cap, .int .i64 most] 29)).alloc (.cells #[.slice none 0 0, .int .i64 0] 29)) (w.heap.size + 1) 29 #[.slice none 0 0, .int .i64 0] := Blk.at (by simp)
  have hO := ((Only.refl (fun _ => False) w).alloc (.cells #[.slice ad ns.length cap, .int .i64 most] 29)).alloc (.cells #[.slice none 0 0, .int .i64 0] 29)
  generalize World.alloc (World.alloc w _) _ = W at hB0 hB1 hO ⊢
  refine (HST.out _).mono ?_
  rintro e W1 ⟨vs, rfl, hS⟩
  have hB0 := hB0.only hS.only (fun h => h)
  have hB1 := hB1.only hS.only (fun h => h)
  have hO := hO.trans hS.only (fun _ _ h => h)
  have hrow := hS.row
  obtain ⟨g, cp, hvs, _, _⟩ := own_form hrow (by rw [stList_length]; omega)
  rw [stList_length] at hvs
  subst hvs
  have hlen := stList_length f 16
  rw [hlen] at hrow
  have HRow := Lib.hid hrow
  clear hS hrow
  have hl1 := hB1.lt
  have z0 : W1.cell? ⟨w.heap.size, 0, none⟩ = some (.slice ad ns.length cap) := hB0.cell 0
  have z1 : W1.cell? ⟨w.heap.size, 1, none⟩ = some (.int .i64 most) := hB0.cell 1
  have HB1 := Lib.hid hB1
  have HO := Lib.hid hO
  clear hB0 hB1 hO
  go_wp2_with fail
  go_loop [7, 13] (fun x c => ∃ i : Nat, c = .int .i64 i ∧ i ≤ 16 ∧ x = .int .u64 (tSum f i)) (fun _ c => 16 - (intOf c).toNat)
  case atStart => exact ⟨0, rfl, by omega, rfl⟩
  case round =>
    obtain ⟨i, rfl, hi, rfl⟩ := hrel
    by_cases hi6 : i < 16
    · have d0 := int_cell HRow.out hi6 hlen.symm
      have hg : (stList f 16).getD i 0 = stAt f i := by simp [stList, hi6]
      rw [hg] at d0
      have t1 := tSum_le f i
      have t5 : tSum f (i + 1) = tSum f i + (stAt f i % 2 + stAt f i / 2) := rfl
      have hs : stAt f i ≤ 4 := by
        have h1 := bitAt_lt f (2 * i)
        have h2 := bitAt_lt f (2 * i + 1)
        unfold stAt
        omega
      generalize stAt f i = s at *
      generalize tSum f i = t at *
      have T5 := Lib.hid t5
      clear t5 hg
      go_wp2
      go_round
      case rel => exact ⟨i + 1, by go_num, hi6, by rw [T5.out]; go_num⟩
      case measure => simp [intOf]; omega
    · obtain rfl : i = 16 := by omega
      rw [← HPC.out]
      have hR1 := HR.out.keep0 HO.out
      have HR1 := Lib.hid hR1
      clear hR1
      go_wp2_with fail
      refine (HADD.out _ HR1.out).mono ?_
      rintro e W2 ⟨v2, rfl, hR2, hO2⟩
      obtain ⟨a2, cap2, hv2, _⟩ := own_slice hR2
      generalize (findR ns most (leafKey f) (popc f)).2.2.length = n2 at hv2
      subst hv2
      have hB2 := HB1.out.only hO2 (fun h => h)
      have hO3 := HO.out.trans hO2 (fun _ _ h => h)
      have y3 : W2.cell? ⟨w.heap.size + 1, 0, none⟩ = some (.slice none 0 0) := hB2.cell 0
      have y4 : W2.cell? ⟨w.heap.size + 1, 1, none⟩ = some (.int .i64 0) := hB2.cell 1
      have y5 : W2.frozen? ⟨w.heap.size + 1, 0, none⟩ = false := hB2.frozen 0
      have y6 : W2.frozen? ⟨w.heap.size + 1, 1, none⟩ = false := hB2.frozen 1
      have HB2 := Lib.hid hB2
      have HO3 := Lib.hid hO3
      have HR2 := Lib.hid hR2
      clear hB2 hO3 hR2 hO2
      go_wp2
      have B7 : Blk ((W2.setCell ⟨w.heap.size + 1, 0, none⟩ (.slice a2 n2 cap2)).setCell ⟨w.heap.size + 1, 1, none⟩ (.int .i64 most)) (w.heap.size + 1) 29 #[.slice a2 n2 cap2, .int .i64 most] := (HB2.out.set_ 0 _).set_ 1 _
      have O7 := (HO3.out.setCell (p := ⟨w.heap.size + 1, 0, none⟩) (fun h => by simp only at h; omega) (.slice a2 n2 cap2)).setCell (p := ⟨w.heap.size + 1, 1, none⟩) (fun h => by simp only at h; omega) (.int .i64 most)
      have R7 := (HR2.out.keep (Only.set1 _ (w.heap.size + 1) 0 (.slice a2 n2 cap2)) (fun k hk e => own_blk_ne HR2.out HB2.out (by decide) (hk.trans (congrArg some e)))).keep (Only.set1 _ (w.heap.size + 1) 1 (.int .i64 most)) (fun k hk e => own_blk_ne HR2.out HB2.out (by decide) (hk.trans (congrArg some e)))
      generalize World.setCell (World.setCell W2 _ _) _ _ = Z at B7 O7 R7 ⊢
      have z0 := B7.cell 0
      have z1 := B7.cell 1
      clear B7
      exact bodyPost_ret (v := .tuple #[.agg #[.slice a2 n2 cap2, .int .i64 most], .int .i64 (findR ns most (leafKey f) (popc f)).1, .int .i64 0]) (by simp [results, go_sem, z0, z1]) rfl ⟨_, rfl, R7, O7⟩
end Go.Proofs.Ytblhbfniomlfkaa
