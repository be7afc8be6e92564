/- tree.Level and the document's: the least level that has all. -/
import Derived.Test.YtblhbfniomlfkaaHalf
import Derived.Test.YtblhbfniomlfkaaCopy
namespace Go.Proofs.Ytblhbfniomlfkaa
open Go.RowKit

/-- Is a box inside? -/
def inBox (l a b c d : Int) : Bool := insB l a b && insB l c d
/-- The least level from n on at which f holds; 44 at most. -/
def least (f : Int → Bool) (n : Nat) : Nat := if h : n < 44 then (if f n then n else least f (n + 1)) else n
termination_by 44 - n
theorem least_le (f : Int → Bool) (n : Nat) (h : n ≤ 44) : n ≤ least f n ∧ least f n ≤ 44 := by
  induction hk : 44 - n generalizing n with
  | zero => unfold least; rw [dif_neg (by omega)]; omega
  | succ k ih =>
    unfold least
    rw [dif_pos (by omega)]
    split
    · omega
    · have := ih (n + 1) (by omega) (by omega)
      omega
theorem least_yes {f : Int → Bool} {n : Nat} (h : f n = true) : least f n = n := by
  unfold least
  simp [h]
theorem least_no {f : Int → Bool} {n : Nat} (hn : n < 44) (h : f n = false) : least f n = least f (n + 1) := by
  rw [least.eq_1 f n, dif_pos hn, if_neg (by simp [h])]
theorem least_top (f : Int → Bool) {n : Nat} (hn : ¬ n < 44) : least f n = n := by unfold least; rw [dif_neg hn]

set_option maxHeartbeats 800000 in
theorem tLevel_any (a b c d : Int) (w : World) : Calls Try.prog 16 #[.agg #[.int .i64 a, .int .i64 b, .int .i64 c, .int .i64 d]] w fun e w' => e = .returned (.int .i64 (least (fun l => inBox l a b c d) 3)) ∧ Only (fun _ => False) w w' := by
  have h1 := fun (n : Nat) (hn : n ≤ 44) W => tInside_any n a b W (by omega)
  have h2 := fun (n : Nat) (hn : n ≤ 44) W => tInside_any n c d W (by omega)
  have H1 := Lib.hid h1
  have H2 := Lib.hid h2
  clear h1 h2
  go_enter Try.func16, Try.ntmps16
  go_wp2
  go_loopw [3] (fun v wr => ∃ n : Nat, v = .int .i64 n ∧ 3 ≤ n ∧ n ≤ 44 ∧ least (fun l => inBox l a b c d) n = least (fun l => inBox l a b c d) 3 ∧ Blk wr w.heap.size 52 #[.int .i64 a, .int .i64 b, .int .i64 c, .int .i64 d] ∧ Only (fun _ => False) w wr) (fun v _ => 44 - (intOf v).toNat)
  case atStart => exact ⟨3, rfl, by omega, by omega, rfl, Blk.new _ _ _, (Only.refl _ _).alloc _⟩
  case round =>
    obtain ⟨n, rfl, hn3, hn, hL, hB, hO⟩ := hrel
    have c0 : wr.cell? ⟨w.heap.size, 0, none⟩ = some (.int .i64 a) := hB.cell 0
    have c1 : wr.cell? ⟨w.heap.size, 1, none⟩ = some (.int .i64 b) := hB.cell 1
    have HL := Lib.hid hL
    have HB := Lib.hid hB
    have HO := Lib.hid hO
    clear hL hB hO
    by_cases h44 : n < 44
    · have hlt : (n : Int) < 44 := by omega
      have h1 := H1.out n hn
      have h2 := H2.out n hn
      have hi : ∀ p q, insB n a b = p → insB n c d = q → inBox n a b c d = (p && q) := fun p q hp hq => by unfold inBox; rw [hp, hq]
      have HI := Lib.hid hi
      clear hi
      cases e1 : insB n a b
      · rw [e1] at h1
        have E1 := Lib.hid e1
        have HH1 := Lib.hid h1
        clear e1 h1 h2
        go_wp2_with fail
        refine (HH1.out _).mono ?_
        rintro e w1 ⟨rfl, hO1⟩
        have HO1 := Lib.hid hO1
        have HB1 := Lib.hid (HB.out.only hO1 (fun h => h))
        clear hO1
        go_wp2_with fail
        go_roundw
        case rel => exact ⟨n + 1, by go_num, by omega, by omega, by rw [← HL.out, least_no h44 (HI.out _ _ E1.out rfl)], HB1.out, HO.out.trans HO1.out (fun _ _ h => h)⟩
        case measure => simp [intOf]; omega
      · rw [e1] at h1
        have E1 := Lib.hid e1
        have HH1 := Lib.hid h1
        clear e1 h1
        cases e2 : insB n c d
        · rw [e2] at h2
          have E2 := Lib.hid e2
          have HH2 := Lib.hid h2
          clear e2 h2
          go_wp2_with fail
          refine (HH1.out _).mono ?_
          rintro e w1 ⟨rfl, hO1⟩
          have HO1 := Lib.hid hO1
          have HB1 := Lib.hid (HB.out.only hO1 (fun h => h))
          clear hO1 c0 c1
          have c2 : w1.cell? ⟨w.heap.size, 2, none⟩ = some (.int .i64 c) := HB1.out.cell 2
          have c3 : w1.cell? ⟨w.heap.size, 3, none⟩ = some (.int .i64 d) := HB1.out.cell 3
          go_wp2_with fail
          refine (HH2.out _).mono ?_
          rintro e w2 ⟨rfl, hO2⟩
          have HO2 := Lib.hid hO2
          have HB2 := Lib.hid (HB1.out.only hO2 (fun h => h))
          clear hO2 c2 c3
          go_wp2_with fail
          go_roundw
          case rel => exact ⟨n + 1, by go_num, by omega, by omega, by rw [← HL.out, least_no h44 (HI.out _ _ E1.out E2.out)], HB2.out, (HO.out.trans HO1.out (fun _ _ h => h)).trans HO2.out (fun _ _ h => h)⟩
          case measure => simp [intOf]; omega
        · rw [e2] at h2
          have E2 := Lib.hid e2
          have HH2 := Lib.hid h2
          clear e2 h2
          go_wp2_with fail
          refine (HH1.out _).mono ?_
          rintro e w1 ⟨rfl, hO1⟩
          have HO1 := Lib.hid hO1
          have HB1 := Lib.hid (HB.out.only hO1 (fun h => h))
          clear hO1 c0 c1
          have c2 : w1.cell? ⟨w.heap.size, 2, none⟩ = some (.int .i64 c) := HB1.out.cell 2
          have c3 : w1.cell? ⟨w.heap.size, 3, none⟩ = some (.int .i64 d) := HB1.out.cell 3
          go_wp2_with fail
          refine (HH2.out _).mono ?_
          rintro e w2 ⟨rfl, hO2⟩
          have HO2 := Lib.hid hO2
          clear hO2 c2 c3
          go_wp2_with fail
          go_ret
          exact ⟨ret_i64 (by rw [← HL.out, least_yes (HI.out _ _ E1.out E2.out)]), (HO.out.trans HO1.out (fun _ _ h => h)).trans HO2.out (fun _ _ h => h)⟩
    · have hlt : ¬ (n : Int) < 44 := by omega
      go_wp2_with fail
      go_ret
      exact ⟨ret_i64 (by rw [← HL.out, least_top _ h44]), HO.out⟩
end Go.Proofs.Ytblhbfniomlfkaa
