/- set.Box. -/
import Derived.Test.YtblhbfniomlfkaaLeaves
import Derived.BigRegion
namespace Go.Proofs.Ytblhbfniomlfkaa
open Go.RowKit

/-- Least and greatest coordinates. -/
structure Bx where
  a : Int
  b : Int
  c : Int
  d : Int
def Bx.cells (x : Bx) : Array Value := #[.int .i64 x.a, .int .i64 x.b, .int .i64 x.c, .int .i64 x.d]
def Bx.add (x : Bx) (c : Cl) : Bx := ⟨min x.a c.a, min x.b c.b, max x.c c.a, max x.d c.b⟩
def bxOf (h : Cl) (l : List Cl) : Bx := l.foldl Bx.add ⟨h.a, h.b, h.a, h.b⟩
theorem bxOf_snoc (h : Cl) (l : List Cl) (c : Cl) : bxOf h (l ++ [c]) = (bxOf h l).add c := by simp [bxOf]
theorem bxOf_le (h : Cl) (l : List Cl) : ∀ c, c ∈ l → (bxOf h l).a ≤ c.a ∧ (bxOf h l).b ≤ c.b ∧ c.a ≤ (bxOf h l).c ∧ c.b ≤ (bxOf h l).d := by
  induction l using snoc_ind with
  | h0 => intro c hc; simp at hc
  | h1 l x ih =>
    intro c hc
    rw [bxOf_snoc]
    simp only [Bx.add]
    rcases List.mem_append.1 hc with h1 | h1
    · have := ih c h1; omega
    · simp only [List.mem_singleton] at h1; subst h1; omega

theorem box_step {w V : World} {r : Nat} {cs0 cs1 cs2 : Array Value} (h0 : Blk V w.heap.size 52 cs0) (h1 : Blk V (w.heap.size + 1) 52 cs1) (h2 : Blk V r 72 cs2) (ho : Only (fun _ => False) w V) (hr : w.heap.size + 1 < r) (i j : Nat) (u v : Value) :
    Blk ((V.setCell ⟨w.heap.size + 1, i, none⟩ u).setCell ⟨w.heap.size + 1, j, none⟩ v).drew w.heap.size 52 cs0 ∧ Blk ((V.setCell ⟨w.heap.size + 1, i, none⟩ u).setCell ⟨w.heap.size + 1, j, none⟩ v).drew (w.heap.size + 1) 52 ((cs1.setIfInBounds i u).setIfInBounds j v) ∧
      Blk ((V.setCell ⟨w.heap.size + 1, i, none⟩ u).setCell ⟨w.heap.size + 1, j, none⟩ v).drew r 72 cs2 ∧ Only (fun _ => False) w ((V.setCell ⟨w.heap.size + 1, i, none⟩ u).setCell ⟨w.heap.size + 1, j, none⟩ v).drew :=
  ⟨((h0.far (by simp) _).far (by simp) _).drew, ((h1.set_ i u).set_ j v).drew, ((h2.far (by simp; omega) _).far (by simp; omega) _).drew, ((ho.setCell (p := ⟨w.heap.size + 1, i, none⟩) (fun h => by simp only at h; omega) u).setCell (p := ⟨w.heap.size + 1, j, none⟩) (fun h => by simp only at h; omega) v).drew⟩

def BoxPost (l : List Cl) (w : World) (e : Ending) (w' : World) : Prop :=
  ∃ x b, e = .returned (.tuple #[.agg #[.int .i64 x.a, .int .i64 x.b, .int .i64 x.c, .int .i64 x.d], .bool b]) ∧ Only (fun _ => False) w w' ∧ (l = [] → b = false) ∧ (∀ h r, l = h :: r → b = true ∧ x = bxOf h l)

set_option maxRecDepth 100000 in
set_option maxHeartbeats 2000000 in
theorem Box_any (v : Value) (l : List Cl) (w : World) (hR : ClAt w 72 v l) : Calls Try.prog 58 #[v] w (BoxPost l w) := by
  obtain ⟨ad, cap, hv, hm⟩ := own_slice hR
  have hm : l.length ≤ 9223372036854775807 := by unfold maxLen at hm; omega
  have HR := Lib.hid hR
  have HV := Lib.hid hv
  clear hR
  rw [HV.out]
  clear hv
  by_cases h0 : l.length = 0
  · have hd : ((l.length : Int) == 0) = true := by simp [h0]
    have H0 := Lib.hid h0
    clear h0
    go_enter Try.func58, Try.ntmps58
    go_wp2
    have hl : l = [] := List.eq_nil_of_length_eq_zero H0.out
    exact bodyPost_ret (v := .tuple #[.agg #[.int .i64 0, .int .i64 0, .int .i64 0, .int .i64 0], .bool false]) (by simp [results, go_sem]) rfl ⟨⟨0, 0, 0, 0⟩, false, rfl, (Only.refl _ _).alloc _, fun _ => rfl, fun h r e => by rw [hl] at e; cases e⟩
  · have hd : ((l.length : Int) == 0) = false := by simpa using h0
    obtain ⟨g, cp, hv, _⟩ := own_form HR.out (Nat.pos_of_ne_zero h0)
    have hv2 := HV.out.symm.trans hv
    simp only [Value.slice.injEq, true_and] at hv2
    obtain ⟨rfl, rfl⟩ := hv2
    have hR0 := HR.out
    rw [hv] at hR0
    have hc := ClAt.cell hR0 rfl (i := 0) (by omega)
    obtain ⟨c, hcc⟩ : ∃ c, l.getD 0 default = c := ⟨_, rfl⟩
    rw [hcc] at hc
    obtain ⟨c0, c1, c2⟩ := hc
    rw [Nat.zero_mul] at c0
    rw [Nat.zero_mul, Nat.zero_add] at c1 c2
    have hgs : g < w.heap.size := World.block_lt_of_cell? w _ c0
    have hpos : (0 : Int) < (l.length : Int) := by omega
    have HC := Lib.hid hcc
    clear hcc hv hR0
    go_enter Try.func58, Try.ntmps58
    go_wp2_with fail
    go_region
    go_wp2_with fail
    go_loopw [22] (fun c' wr => ∃ i : Nat, c' = .int .i64 i ∧ i ≤ l.length ∧ Blk wr w.heap.size 52 #[.int .i64 0, .int .i64 0, .int .i64 0, .int .i64 0] ∧ Blk wr (w.heap.size + 1) 52 (bxOf c (l.take i)).cells ∧ Only (fun _ => False) w wr) (fun c _ => l.length - (intOf c).toNat)
    case atStart =>
      refine ⟨0, rfl, by omega, ((Blk.new _ _ _).alloc _).drew, Blk.drew (Blk.at (by simp)), (((Only.refl _ _).alloc _).alloc _).drew⟩
    case round =>
      obtain ⟨i, rfl, hi, hB0, hB1, hO⟩ := hrel
      obtain ⟨wo, hwo⟩ : ∃ wo : World, wo = wr := ⟨_, rfl⟩
      rw [← hwo] at hB0 hB1 hO ⊢
      clear hwo
      by_cases hlt : i < l.length
      · have hR1 := HR.out.keep0 hO
        rw [HV.out] at hR1
        have hq := ClAt.cell hR1 rfl hlt
        obtain ⟨q, hqq⟩ : ∃ q, l.getD i default = q := ⟨_, rfl⟩
        rw [hqq] at hq
        obtain ⟨q0, q1, q2⟩ := hq
        obtain ⟨x, hx⟩ : ∃ x, x = bxOf c (l.take i) := ⟨_, rfl⟩
        rw [← hx] at hB1
        have b0 : wo.cell? ⟨w.heap.size + 1, 0, none⟩ = some (.int .i64 x.a) := hB1.cell 0
        have b1 : wo.cell? ⟨w.heap.size + 1, 1, none⟩ = some (.int .i64 x.b) := hB1.cell 1
        have b2 : wo.cell? ⟨w.heap.size + 1, 2, none⟩ = some (.int .i64 x.c) := hB1.cell 2
        have b3 : wo.cell? ⟨w.heap.size + 1, 3, none⟩ = some (.int .i64 x.d) := hB1.cell 3
        have f0 : wo.frozen? ⟨w.heap.size + 1, 0, none⟩ = false := hB1.frozen 0
        have f1 : wo.frozen? ⟨w.heap.size + 1, 1, none⟩ = false := hB1.frozen 1
        have f2 : wo.frozen? ⟨w.heap.size + 1, 2, none⟩ = false := hB1.frozen 2
        have f3 : wo.frozen? ⟨w.heap.size + 1, 3, none⟩ = false := hB1.frozen 3
        have hgs1 : g < wo.heap.size := World.block_lt_of_cell? wo _ q0
        have hl1 := hB1.lt
        have HB0 := Lib.hid hB0
        have HB1 := Lib.hid hB1
        have HO := Lib.hid hO
        have HX := Lib.hid hx
        have HQ := Lib.hid hqq
        have HQ2 := Lib.hid (And.intro q1 q2)
        clear hB0 hB1 hO hx hqq hR1
        go_upto_region 7 with fail
        obtain ⟨r, hr⟩ : ∃ r, r = wo.heap.size := ⟨_, rfl⟩
        have hBq : Blk (wo.alloc (.cells #[.int .i64 q.a, .int .i64 q.b, .int .i64 q.h] 72)) r 72 #[.int .i64 q.a, .int .i64 q.b, .int .i64 q.h] := by rw [hr]; exact Blk.new _ _ _
        have hB0 := HB0.out.alloc (.cells #[.int .i64 q.a, .int .i64 q.b, .int .i64 q.h] 72)
        have hB1 := HB1.out.alloc (.cells #[.int .i64 q.a, .int .i64 q.b, .int .i64 q.h] 72)
        have hO := HO.out.alloc (.cells #[.int .i64 q.a, .int .i64 q.b, .int .i64 q.h] 72)
        simp only [← hr]
        have hr1 : w.heap.size + 1 < r := by rw [hr]; exact hl1
        clear b0 b1 b2 b3 f0 f1 f2 f3 q0 q1 q2 hgs1 hl1 hr
        generalize wo.alloc (.cells #[.int .i64 q.a, .int .i64 q.b, .int .i64 q.h] 72) = V at hBq hB0 hB1 hO ⊢
        have HBq := Lib.hid hBq
        have HB0' := Lib.hid hB0
        have HB1' := Lib.hid hB1
        have HO' := Lib.hid hO
        have b0 : V.cell? ⟨w.heap.size + 1, 0, none⟩ = some (.int .i64 x.a) := hB1.cell 0
        have b2 : V.cell? ⟨w.heap.size + 1, 2, none⟩ = some (.int .i64 x.c) := hB1.cell 2
        have f0 : V.frozen? ⟨w.heap.size + 1, 0, none⟩ = false := hB1.frozen 0
        have f2 : V.frozen? ⟨w.heap.size + 1, 2, none⟩ = false := hB1.frozen 2
        have q0 : V.cell? ⟨r, 0, none⟩ = some (.int .i64 q.a) := hBq.cell 0
        clear hBq hB0 hB1 hO HB0 HB1 HO
        go_cut [22] (fun s22 wx => s22 = .int .i64 i ∧ Blk wx w.heap.size 52 #[.int .i64 0, .int .i64 0, .int .i64 0, .int .i64 0] ∧ Blk wx (w.heap.size + 1) 52 #[.int .i64 (min x.a q.a), .int .i64 x.b, .int .i64 (max x.c q.a), .int .i64 x.d] ∧ Blk wx r 72 #[.int .i64 q.a, .int .i64 q.b, .int .i64 q.h] ∧ Only (fun _ => False) w wx)
        case first =>
          have hne : w.heap.size + 1 ≠ r := by omega
          go_region
          go_wp2_with fail
          all_goals
            go_meet
            refine ⟨rfl, (box_step HB0'.out HB1'.out HBq.out HO'.out hr1 0 2 _ _).1, ?_, (box_step HB0'.out HB1'.out HBq.out HO'.out hr1 0 2 _ _).2.2⟩
            first
              | (rw [show min x.a q.a = x.a from by omega, show max x.c q.a = x.c from by omega]; exact (box_step HB0'.out HB1'.out HBq.out HO'.out hr1 0 2 _ _).2.1)
              | (rw [show min x.a q.a = x.a from by omega, show max x.c q.a = q.a from by omega]; exact (box_step HB0'.out HB1'.out HBq.out HO'.out hr1 0 2 _ _).2.1)
              | (rw [show min x.a q.a = q.a from by omega, show max x.c q.a = x.c from by omega]; exact (box_step HB0'.out HB1'.out HBq.out HO'.out hr1 0 2 _ _).2.1)
              | (rw [show min x.a q.a = q.a from by omega, show max x.c q.a = q.a from by omega]; exact (box_step HB0'.out HB1'.out HBq.out HO'.out hr1 0 2 _ _).2.1)
        case rest =>
          obtain ⟨rfl, hB0, hB1, hBq, hO⟩ := hcut
          clear b0 b2 f0 f2 q0 HB0' HB1' HBq HO'
          obtain ⟨V2, hV2⟩ : ∃ V2 : World, V2 = wc := ⟨_, rfl⟩
          rw [← hV2] at hB0 hB1 hBq hO ⊢
          clear hV2
          have HBq := Lib.hid hBq
          have HB0 := Lib.hid hB0
          have HB1 := Lib.hid hB1
          have HO := Lib.hid hO
          have b1 : V2.cell? ⟨w.heap.size + 1, 1, none⟩ = some (.int .i64 x.b) := hB1.cell 1
          have b3 : V2.cell? ⟨w.heap.size + 1, 3, none⟩ = some (.int .i64 x.d) := hB1.cell 3
          have f1 : V2.frozen? ⟨w.heap.size + 1, 1, none⟩ = false := hB1.frozen 1
          have f3 : V2.frozen? ⟨w.heap.size + 1, 3, none⟩ = false := hB1.frozen 3
          have q1 : V2.cell? ⟨r, 1, none⟩ = some (.int .i64 q.b) := hBq.cell 1
          clear hBq hB0 hB1 hO
          have hne : w.heap.size + 1 ≠ r := by omega
          go_wp2_with fail
          go_region
          go_wp2_with fail
          all_goals
            go_roundw
            case rel =>
              refine ⟨i + 1, by go_num, hlt, (box_step HB0.out HB1.out HBq.out HO.out hr1 1 3 _ _).1, ?_, (box_step HB0.out HB1.out HBq.out HO.out hr1 1 3 _ _).2.2.2⟩
              have ht : l.take (i + 1) = l.take i ++ [q] := by
                have hqq := HQ.out
                rw [List.take_succ_eq_append_getElem hlt]
                rw [List.getD_eq_getElem?_getD, List.getElem?_eq_getElem hlt] at hqq
                simp only [Option.getD_some] at hqq
                rw [hqq]
              rw [ht, bxOf_snoc, ← HX.out]
              simp only [Bx.cells, Bx.add]
              rw [show min x.b q.b = (if q.b < x.b then q.b else x.b) from by split <;> omega, show max x.d q.b = (if x.d < q.b then q.b else x.d) from by split <;> omega]
              exact (box_step HB0.out HB1.out HBq.out HO.out hr1 1 3 _ _).2.1
            case measure => simp [intOf]; omega
      · obtain rfl : i = l.length := by omega
        rw [List.take_length] at hB1
        obtain ⟨x, hx⟩ : ∃ x, x = bxOf c l := ⟨_, rfl⟩
        rw [← hx] at hB1
        have b0 : wo.cell? ⟨w.heap.size + 1, 0, none⟩ = some (.int .i64 x.a) := hB1.cell 0
        have b1 : wo.cell? ⟨w.heap.size + 1, 1, none⟩ = some (.int .i64 x.b) := hB1.cell 1
        have b2 : wo.cell? ⟨w.heap.size + 1, 2, none⟩ = some (.int .i64 x.c) := hB1.cell 2
        have b3 : wo.cell? ⟨w.heap.size + 1, 3, none⟩ = some (.int .i64 x.d) := hB1.cell 3
        have z0 : wo.cell? ⟨w.heap.size, 0, none⟩ = some (.int .i64 0) := hB0.cell 0
        have z1 : wo.cell? ⟨w.heap.size, 1, none⟩ = some (.int .i64 0) := hB0.cell 1
        have z2 : wo.cell? ⟨w.heap.size, 2, none⟩ = some (.int .i64 0) := hB0.cell 2
        have z3 : wo.cell? ⟨w.heap.size, 3, none⟩ = some (.int .i64 0) := hB0.cell 3
        have f0 : wo.frozen? ⟨w.heap.size, 0, none⟩ = false := hB0.frozen 0
        have f1 : wo.frozen? ⟨w.heap.size, 1, none⟩ = false := hB0.frozen 1
        have f2 : wo.frozen? ⟨w.heap.size, 2, none⟩ = false := hB0.frozen 2
        have f3 : wo.frozen? ⟨w.heap.size, 3, none⟩ = false := hB0.frozen 3
        have HB0 := Lib.hid hB0
        have HX := Lib.hid hx
        have HO := Lib.hid hO
        clear hB0 hB1 hx hO
        go_wp2_with fail
        have hZ := (((HB0.out.set_ 0 (.int .i64 x.a)).set_ 1 (.int .i64 x.b)).set_ 2 (.int .i64 x.c)).set_ 3 (.int .i64 x.d)
        have hOZ := (((HO.out.setCell (p := ⟨w.heap.size, 0, none⟩) (fun h => by simp only at h; omega) (.int .i64 x.a)).setCell (p := ⟨w.heap.size, 1, none⟩) (fun h => by simp only at h; omega) (.int .i64 x.b)).setCell (p := ⟨w.heap.size, 2, none⟩) (fun h => by simp only at h; omega) (.int .i64 x.c)).setCell (p := ⟨w.heap.size, 3, none⟩) (fun h => by simp only at h; omega) (.int .i64 x.d)
        generalize World.setCell (World.setCell (World.setCell (World.setCell wo _ _) _ _) _ _) _ _ = Z at hZ hOZ ⊢
        have y0 : Z.cell? ⟨w.heap.size, 0, none⟩ = some (.int .i64 x.a) := hZ.cell 0
        have y1 : Z.cell? ⟨w.heap.size, 1, none⟩ = some (.int .i64 x.b) := hZ.cell 1
        have y2 : Z.cell? ⟨w.heap.size, 2, none⟩ = some (.int .i64 x.c) := hZ.cell 2
        have y3 : Z.cell? ⟨w.heap.size, 3, none⟩ = some (.int .i64 x.d) := hZ.cell 3
        clear hZ
        exact bodyPost_ret (v := .tuple #[.agg #[.int .i64 x.a, .int .i64 x.b, .int .i64 x.c, .int .i64 x.d], .bool true]) (by simp [results, go_sem, y0, y1, y2, y3]) rfl ⟨x, true, rfl, hOZ, fun e => by rw [e] at h0; simp at h0, fun h r e => ⟨rfl, by rw [HX.out, ← HC.out, e]; rfl⟩⟩
end Go.Proofs.Ytblhbfniomlfkaa
