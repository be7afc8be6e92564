/- honeycomblaw13.TreeLevels. -/
import Derived.Test.YtblhbfniomlfkaaLevelsP
import Derived.BigRegion
namespace Go.Proofs.Ytblhbfniomlfkaa
open Go.RowKit

theorem stepP_headG {P : Program} {ops : Array Oper} {Q : Exit → Act → World → Prop} {S : World → Prop} {l rest : List Oper} {p : Plan} {i : Nat} {o : Oper} {a : Act} {w : World} {v : Value} (hi : l[i]? = some o) (hg : Region.wanted o (yielded ops a.tmps) = true) (hy : ∀ w, S w → (execOp a.eval o).run P w = .ok (.value v) w) (h : stepP P ops Q S l rest p (a.put o.dst v) w) : stepP P ops Q S l rest (.head i p) a w := by
  simp only [stepP, hi]
  exact ⟨v, .inl ⟨hg, hy⟩, h⟩
theorem rc_two (W : World) (a b c d : Int) : ClAt (W.alloc (.cells #[.int .i64 a, .int .i64 b, .int .i64 0, .int .i64 c, .int .i64 d, .int .i64 0] 55)) 55 (.slice (some ⟨W.heap.size, 0, none⟩) 2 2) [⟨a, b, 0⟩, ⟨c, d, 0⟩] :=
  World.ownsRow_lit W #[.int .i64 a, .int .i64 b, .int .i64 0, .int .i64 c, .int .i64 d, .int .i64 0] 2 (Nat.zero_le _) (by unfold maxLen; omega) rfl
theorem two_ok {a b c d : Int} (ha : -9223372036854775807 ≤ a ∧ a ≤ 9223372036854775807) (hb : -9223372036854775807 ≤ b ∧ b ≤ 9223372036854775807) (hc : -9223372036854775807 ≤ c ∧ c ≤ 9223372036854775807) (hd : -9223372036854775807 ≤ d ∧ d ≤ 9223372036854775807) :
    ∀ x, x ∈ ([⟨a, b, 0⟩, ⟨c, d, 0⟩] : List Cl) → x.Ok := fun x hx => by
  simp only [List.mem_cons, List.not_mem_nil, or_false] at hx
  rcases hx with rfl | rfl
  · exact ⟨ha, hb⟩
  · exact ⟨hc, hd⟩
theorem tm (a : Int) : -1125899906842624 < a.tmod 1125899906842624 ∧ a.tmod 1125899906842624 < 1125899906842624 := by
  constructor
  · have h := Int.lt_tmod_of_pos a (b := 1125899906842624) (by omega)
    omega
  · have h := Int.tmod_lt_of_pos a (b := 1125899906842624) (by omega)
    omega

set_option maxRecDepth 100000 in
set_option maxHeartbeats 4000000 in
theorem TreeLevels_any (l a b c d : Int) (w : World) (hl : I64 l) :
    Calls Try.prog 4 #[.int .i64 l, .agg #[.int .i64 a, .int .i64 b], .agg #[.int .i64 c, .int .i64 d]] w fun e w' => e = .returned (.bool true) ∧ Only (fun _ => False) w w' := by
  have hawk := fun W => awake13_any W
  have HAWK := Lib.hid hawk
  clear hawk
  go_enter Try.func4, Try.ntmps4
  go_wp2_with fail
  refine (HAWK.out _).mono ?_
  rintro e w1 ⟨rfl, hO1⟩
  have hP := ((Blk.new w 49 #[.int .i64 a, .int .i64 b]).alloc (.cells #[.int .i64 c, .int .i64 d] 49)).only hO1 (fun h => h)
  have hQ := (Blk.new (w.alloc (.cells #[.int .i64 a, .int .i64 b] 49)) 49 #[.int .i64 c, .int .i64 d]).only hO1 (fun h => h)
  have hO := (((Only.refl (fun _ => False) w).alloc (.cells #[.int .i64 a, .int .i64 b] 49)).alloc (.cells #[.int .i64 c, .int .i64 d] 49)).trans hO1 (fun _ _ h => h)
  have hz : (w.alloc (.cells #[.int .i64 a, .int .i64 b] 49)).heap.size = w.heap.size + 1 := by simp only [World.alloc, Array.size_push]
  rw [hz] at hQ
  have p0 : w1.cell? ⟨w.heap.size, 0, none⟩ = some (.int .i64 a) := hP.cell 0
  have p1 : w1.cell? ⟨w.heap.size, 1, none⟩ = some (.int .i64 b) := hP.cell 1
  have q0 : w1.cell? ⟨w.heap.size + 1, 0, none⟩ = some (.int .i64 c) := hQ.cell 0
  have q1 : w1.cell? ⟨w.heap.size + 1, 1, none⟩ = some (.int .i64 d) := hQ.cell 1
  have f0 : w1.frozen? ⟨w.heap.size, 0, none⟩ = false := hP.frozen 0
  have f1 : w1.frozen? ⟨w.heap.size, 1, none⟩ = false := hP.frozen 1
  have g0 : w1.frozen? ⟨w.heap.size + 1, 0, none⟩ = false := hQ.frozen 0
  have g1 : w1.frozen? ⟨w.heap.size + 1, 1, none⟩ = false := hQ.frozen 1
  have HP := Lib.hid hP
  have HQ := Lib.hid hQ
  have HO := Lib.hid hO
  clear hP hQ hO hO1 hz
  go_wp2_with fail
  go_region
  generalize ha' : a.tmod 1125899906842624 = a'
  generalize hb' : b.tmod 1125899906842624 = b'
  generalize hc' : c.tmod 1125899906842624 = c'
  generalize hd' : d.tmod 1125899906842624 = d'
  have ta : -1125899906842624 < a' ∧ a' < 1125899906842624 := by rw [← ha']; exact tm a
  have tb : -1125899906842624 < b' ∧ b' < 1125899906842624 := by rw [← hb']; exact tm b
  have tc : -1125899906842624 < c' ∧ c' < 1125899906842624 := by rw [← hc']; exact tm c
  have td : -1125899906842624 < d' ∧ d' < 1125899906842624 := by rw [← hd']; exact tm d
  have hP2 := ((((HP.out.set_ 0 (.int .i64 a')).set_ 1 (.int .i64 b')).far (p := ⟨w.heap.size + 1, 0, none⟩) (fun h => by simp only at h; omega) (.int .i64 c')).far (p := ⟨w.heap.size + 1, 1, none⟩) (fun h => by simp only at h; omega) (.int .i64 d')).drew
  have hQ2 := ((((HQ.out.far (p := ⟨w.heap.size, 0, none⟩) (fun h => by simp only at h; omega) (.int .i64 a')).far (p := ⟨w.heap.size, 1, none⟩) (fun h => by simp only at h; omega) (.int .i64 b')).set_ 0 (.int .i64 c')).set_ 1 (.int .i64 d')).drew
  have hO2 := ((((HO.out.setCell (p := ⟨w.heap.size, 0, none⟩) (fun h => by simp only at h; omega) (.int .i64 a')).setCell (p := ⟨w.heap.size, 1, none⟩) (fun h => by simp only at h; omega) (.int .i64 b')).setCell (p := ⟨w.heap.size + 1, 0, none⟩) (fun h => by simp only at h; omega) (.int .i64 c')).setCell (p := ⟨w.heap.size + 1, 1, none⟩) (fun h => by simp only at h; omega) (.int .i64 d')).drew
  generalize (World.setCell (World.setCell (World.setCell (World.setCell w1 _ _) _ _) _ _) _ _).drew = V at hP2 hQ2 hO2 ⊢
  clear ha' hb' hc' hd' p0 p1 q0 q1 f0 f1 g0 g1 HP HQ HO HAWK
  have p0 : V.cell? ⟨w.heap.size, 0, none⟩ = some (.int .i64 a') := hP2.cell 0
  have p1 : V.cell? ⟨w.heap.size, 1, none⟩ = some (.int .i64 b') := hP2.cell 1
  have q0 : V.cell? ⟨w.heap.size + 1, 0, none⟩ = some (.int .i64 c') := hQ2.cell 0
  have q1 : V.cell? ⟨w.heap.size + 1, 1, none⟩ = some (.int .i64 d') := hQ2.cell 1
  have htl := fun W => tLevel_any a' b' c' d' W
  have hrl := fun W => rLevel_any _ _ _ (rc_two W a' b' c' d') (fun x hx => two_ok (by omega) (by omega) (by omega) (by omega) x hx)
  rw [level_two] at hrl
  have hth := fun W => tHalf_any l W hl
  have hrh := fun W => rHalf_any l W hl
  have hti := fun W => tInside_any l a' b' W hl
  have hri := fun W => rInside_any l a' b' W hl (by omega) (by omega)
  have HTL := Lib.hid htl
  have HRL := Lib.hid hrl
  have HTH := Lib.hid hth
  have HRH := Lib.hid hrh
  have HTI := Lib.hid hti
  have HRI := Lib.hid hri
  have HP2 := Lib.hid hP2
  have HQ2 := Lib.hid hQ2
  have HO2 := Lib.hid hO2
  clear htl hrl hth hrh hti hri hP2 hQ2 hO2 ta tb tc td
  go_wp2_with fail
  refine (HTL.out _).mono ?_
  rintro e w2 ⟨rfl, hO3⟩
  have hP3 := HP2.out.only hO3 (fun h => h)
  have hQ3 := HQ2.out.only hO3 (fun h => h)
  have hO3' := HO2.out.trans hO3 (fun _ _ h => h)
  clear hO3 p0 p1 q0 q1
  have p0 : w2.cell? ⟨w.heap.size, 0, none⟩ = some (.int .i64 a') := hP3.cell 0
  have p1 : w2.cell? ⟨w.heap.size, 1, none⟩ = some (.int .i64 b') := hP3.cell 1
  have q0 : w2.cell? ⟨w.heap.size + 1, 0, none⟩ = some (.int .i64 c') := hQ3.cell 0
  have q1 : w2.cell? ⟨w.heap.size + 1, 1, none⟩ = some (.int .i64 d') := hQ3.cell 1
  have HP3 := Lib.hid hP3
  have HO3 := Lib.hid hO3'
  clear HP2 HQ2 HO2 hP3 hQ3 hO3'
  go_wp2_with fail
  refine (HRL.out _).mono ?_
  rintro e w3 ⟨rfl, hO4⟩
  have hP4 := (HP3.out.alloc (.cells #[.int .i64 a', .int .i64 b', .int .i64 0, .int .i64 c', .int .i64 d', .int .i64 0] 55)).only hO4 (fun h => h)
  have hO4' := (HO3.out.alloc (.cells #[.int .i64 a', .int .i64 b', .int .i64 0, .int .i64 c', .int .i64 d', .int .i64 0] 55)).trans hO4 (fun _ _ h => h)
  clear hO4 p0 p1 q0 q1
  have p0 : w3.cell? ⟨w.heap.size, 0, none⟩ = some (.int .i64 a') := hP4.cell 0
  have p1 : w3.cell? ⟨w.heap.size, 1, none⟩ = some (.int .i64 b') := hP4.cell 1
  have HP4 := Lib.hid hP4
  have HO4 := Lib.hid hO4'
  clear HP3 HO3 hP4 hO4'
  generalize least (fun l => inBox l a' b' c' d') 3 = lv
  have hS : w3.drew.cell? ⟨w.heap.size, 0, none⟩ = some (.int .i64 a') ∧ w3.drew.cell? ⟨w.heap.size, 1, none⟩ = some (.int .i64 b') := ⟨p0, p1⟩
  have HS := Lib.hid hS
  clear hS p0 p1
  go_wp2_with fail
  refine wp_region_plan (fun W => W.cell? ⟨w.heap.size, 0, none⟩ = some (.int .i64 a') ∧ W.cell? ⟨w.heap.size, 1, none⟩ = some (.int .i64 b'))
    (.head 0 (.head 2 (.one 1 (.one 3 (.head 4 (.head 5 (.head 6 (.head 7 (.head 9 (.head 10 (.head 11 (.head 12 (.head 13 (.one 8 (.one 14 (.one 15 (.one 16 (.one 17 (.head 18 (.head 19 (.one 20 (.one 21 (.one 22 .stop)))))))))))))))))))))))
    [] (by kernel_rfl) (by kernel_rfl) (fun _ _ d _ _ h => by cases d <;> exact h) HS.out ?_
  iterate 2
    refine stepP_head (v := ?_) rfl rfl ?_ ?_
    rotate_left
    · rintro W' ⟨s0, s1⟩
      go_simp
      try rfl
    try simp only [Act.put, List.setIfInBounds_toArray, List.set_cons_zero, List.set_cons_succ]
  have HPU := Lib.hid HP4.out.drew
  have HOU := Lib.hid HO4.out.drew
  generalize w3.drew = U at *
  refine stepP_one rfl ?_
  go_wp2_with fail
  refine (HTH.out _).mono ?_
  rintro e U' ⟨rfl, rfl⟩
  go_wp2_with fail
  refine ⟨HS.out, stepP_one rfl ?_⟩
  go_wp2_with fail
  refine (HRH.out _).mono ?_
  rintro e U' ⟨rfl, rfl⟩
  go_wp2_with fail
  refine ⟨HS.out, ?_⟩
  iterate 2
    refine stepP_head (v := .bool true) rfl rfl ?_ ?_
    · rintro W' ⟨s0, s1⟩
      go_simp
      try rfl
    try simp only [Act.put, List.setIfInBounds_toArray, List.set_cons_zero, List.set_cons_succ]
  iterate 7
    refine stepP_headG (v := ?_) rfl rfl ?_ ?_
    rotate_left
    · rintro W' ⟨s0, s1⟩
      go_simp
      try rfl
    try simp only [Act.put, List.setIfInBounds_toArray, List.set_cons_zero, List.set_cons_succ]
  refine stepP_one rfl ?_
  go_wp2_with fail
  refine (HTI.out _).mono ?_
  rintro e U' ⟨rfl, hO5⟩
  have hPU := HPU.out.only hO5 (fun h => h)
  have HOU' := Lib.hid (HOU.out.trans hO5 (fun _ _ h => h))
  have hs' : U'.cell? ⟨w.heap.size, 0, none⟩ = some (.int .i64 a') ∧ U'.cell? ⟨w.heap.size, 1, none⟩ = some (.int .i64 b') := ⟨hPU.cell 0, hPU.cell 1⟩
  have HS' := Lib.hid hs'
  clear hPU hO5 hs'
  go_wp2_with fail
  refine ⟨HS'.out, stepP_one rfl ?_⟩
  go_wp2_with fail
  refine (HRI.out _).mono ?_
  rintro e U2 ⟨rfl, rfl⟩
  go_wp2_with fail
  refine ⟨HS'.out, stepP_one rfl ?_⟩
  go_wp2_with fail
  refine ⟨HS'.out, stepP_one rfl ?_⟩
  go_wp2_with fail
  refine ⟨HS'.out, stepP_one rfl ?_⟩
  go_wp2_with fail
  refine ⟨HS'.out, ?_⟩
  iterate 2
    refine stepP_headG (v := ?_) rfl rfl ?_ ?_
    rotate_left
    · rintro W' ⟨s0, s1⟩
      go_simp
      try rfl
    try simp only [Act.put, List.setIfInBounds_toArray, List.set_cons_zero, List.set_cons_succ]
  refine stepP_one rfl ?_
  go_wp2_with fail
  refine ⟨HS'.out, stepP_one rfl ?_⟩
  go_wp2_with fail
  refine ⟨HS'.out, stepP_one rfl ?_⟩
  go_wp2_with fail
  refine ⟨HS'.out, stepP_stop ?_⟩
  simp only [pick]
  go_wp2_with fail
  go_ret
  exact ⟨rfl, HOU'.out⟩
end Go.Proofs.Ytblhbfniomlfkaa
