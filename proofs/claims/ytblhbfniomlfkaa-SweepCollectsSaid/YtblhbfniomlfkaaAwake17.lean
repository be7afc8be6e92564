/- honeycomblaw17.awake. -/
import Derived.Test.YtblhbfniomlfkaaCopy
namespace Go.Proofs.Ytblhbfniomlfkaa
open Go.RowKit

theorem u32_row3 (W : World) (x y z : Nat) : (W.alloc (.cells #[.int .u32 x, .int .u32 y, .int .u32 z] 32)).ownsRow 0 32 1 (.slice (some ⟨W.heap.size, 0, none⟩) 3 3) [x, y, z].length (u32s [x, y, z]) :=
  World.ownsRow_lit W #[.int .u32 x, .int .u32 y, .int .u32 z] 3 (Nat.zero_le _) (by unfold maxLen; omega) rfl

def leaf5 : Nd := (leafKey 5).nd (popc 5)
theorem find5 : findR [leaf0] 100 (leafKey 5) (popc 5) = (1, 0, [leaf0, leaf5]) := by
  have h : idx [leaf0] (leafKey 5) = none := idx_none (fun i hi => by
    have : i = 0 := by simpa using hi
    subst this
    decide)
  unfold findR
  rw [h]
  rfl
theorem wf5 : Wf [leaf0, leaf5] := wf0.push_leaf 5

theorem lv5 (i : Nat) (h : i < 2) : lvN [leaf0, leaf5] i = 2 := match i, h with | 0, _ => rfl | 1, _ => rfl
theorem seen5 {S : List Nat} (h : Seen [leaf0, leaf5] [1, 0, 1] S) : S.length = 2 := by
  refine h.count (T := [0, 1]) (by decide) (fun k => ⟨fun hk => ?_, fun hk => ?_⟩)
  · simp only [List.mem_cons, List.not_mem_nil, or_false] at hk
    rcases hk with rfl | rfl
    · exact ⟨0, by simp, .refl _⟩
    · exact ⟨1, by simp, .refl _⟩
  · obtain ⟨r, hr, h1⟩ := hk
    have hr2 : r < 2 := by
      simp only [List.mem_cons, List.not_mem_nil, or_false] at hr
      omega
    have : k = r := by
      cases h1 with
      | refl => rfl
      | step hl _ => rw [lv5 r hr2] at hl; omega
    subst this
    simp only [List.mem_cons, List.not_mem_nil, or_false]
    omega
theorem coll5 {A B : Ars} {w w' : World} {M : List (Nat × Nat)} {v : Value} {l : List Nat} (hI : A.Inv) (hns : A.ns = [leaf0, leaf5]) (h : CollRes A [] w B M v l w') : B.ns.length = 1 ∧ v = .slice none 0 0 ∨ B.ns.length = 1 ∧ ∃ g cap, v = .slice (some ⟨g, 0, none⟩) 0 cap := by
  have hM : M = [] := by
    cases M with
    | nil => rfl
    | cons p M => obtain ⟨x, y⟩ := p; obtain ⟨r, hr, _⟩ := h.new x y (by simp); simp at hr
  subst hM
  have hc := h.ok.count (by rw [hns]; exact wf5) hI.dis h.inv.dis
  have hl : l = [] := List.eq_nil_of_length_eq_zero (by simpa using h.len)
  have hrow := h.out.row
  subst hl
  rcases hrow.2 with ⟨h1, _⟩ | ⟨g, cap, cur, h1, _⟩
  · exact .inl ⟨by simpa using hc, h1⟩
  · exact .inr ⟨by simpa using hc, g, cap, h1⟩

set_option maxRecDepth 100000 in
set_option maxHeartbeats 2000000 in
theorem awake17_any (w : World) : Calls Try.prog 7 #[] w fun e w' => e = .returned (.bool true) ∧ Only (fun _ => False) w w' := by
  have hnew := New_big 100 w (by omega) (by omega)
  have HNEW := Lib.hid hnew
  clear hnew
  go_enter Try.func7, Try.ntmps7
  go_wp2_with fail
  refine (HNEW.out).mono ?_
  rintro e w1 ⟨A, hN, rfl⟩
  have hlf := Leaf_any A 5 w1 hN.at_ hN.inv (by rw [hN.ns]; simp) (by omega)
  have HLF := Lib.hid hlf
  have HN := Lib.hid hN
  clear hlf hN
  go_wp2_with fail
  refine (HLF.out).mono ?_
  rintro e w2 ⟨A2, hS, he⟩
  rw [HN.out.ns, HN.out.most, find5] at hS he
  have he' : e = .returned (.tuple #[.int .u32 1, .nilIface]) := he
  subst he'
  have hns : A2.ns = [leaf0, leaf5] := hS.ns
  have hp : A2.p = A.p := hS.p
  have hmo : A2.most = 100 := hS.most.trans HN.out.most
  have hre := fun W (hW : A2.At W) v (hv : W.ownsRow 0 32 1 v [1, 0, 1].length (u32s [1, 0, 1])) => Reach_any A2 (by rw [hns]; exact wf5) (by rw [hns]; simp) 0 v [1, 0, 1] (fun r hr => by rw [hns]; simp only [List.mem_cons, List.not_mem_nil, or_false] at hr; simp only [List.length_cons, List.length_nil]; omega) W hW hv
  have hco := fun W (hW : A2.At W) => Collect_any A2 (by rw [hns]; exact wf5) hS.inv (by rw [hns]; simp) 0 (.slice none 0 0) [] (fun r hr => by simp at hr) (by simp) W hW (by rw [hmo]; omega) (by rw [hmo]; omega) (by rw [hns, hmo]; simp) (World.ownsRow_nil W 0 32 1)
  rw [hp] at hre hco
  have HS := Lib.hid hS
  have HRE := Lib.hid hre
  have HCO := Lib.hid hco
  clear hS hre hco
  go_wp2_with fail
  refine (HRE.out _ (HS.out.at_.alloc _) _ (u32_row3 w2 1 0 1)).mono ?_
  rintro e w3 ⟨S, he3, hSe, hO3⟩
  rw [hns] at hSe
  rw [seen5 hSe] at he3
  have he3' : e = .returned (.tuple #[.int .i64 2, .nilIface]) := he3
  subst he3'
  have hO := (HS.out.only.alloc (.cells #[.int .u32 1, .int .u32 0, .int .u32 1] 32)).trans hO3 (fun _ _ h => h.elim)
  have hO' := HN.out.only.trans hO (fun i hi h => by have := HN.out.foot i h; omega)
  have hA3 := (HS.out.at_.alloc (.cells #[.int .u32 1, .int .u32 0, .int .u32 1] 32)).keep hO3 (fun _ _ h => h)
  have HO := Lib.hid hO'
  have HA3 := Lib.hid hA3
  clear hSe hO3 hO hO' hA3 he3 he
  go_wp2_with fail
  refine (HCO.out _ HA3.out).mono ?_
  rintro e w4 ⟨B, M, vo, l, rfl, hC⟩
  have hlen := Len_any B w4 hC.at_
  have hO4 := HO.out.trans hC.only (fun _ _ h => h)
  have HO4 := Lib.hid hO4
  have h5 := coll5 HS.out.inv hns hC
  clear hC hO4
  rcases h5 with ⟨h1, rfl⟩ | ⟨h1, g, cap, rfl⟩
  · rw [h1] at hlen
    have hlen' : Calls Try.prog 12 #[.pointer (some ⟨B.p, 0, none⟩)] w4 fun e w' => e = .returned (.int .i64 1) ∧ w4 = w' := hlen
    have HL := Lib.hid hlen'
    clear hlen hlen' h1
    go_wp2_with (first | (go_at_call 12; refine (HL.out).mono ?_; rintro e w' ⟨rfl, rfl⟩) | fail)
    go_ret
    exact ⟨rfl, HO4.out⟩
  · rw [h1] at hlen
    have hlen' : Calls Try.prog 12 #[.pointer (some ⟨B.p, 0, none⟩)] w4 fun e w' => e = .returned (.int .i64 1) ∧ w4 = w' := hlen
    have HL := Lib.hid hlen'
    clear hlen hlen' h1
    go_wp2_with (first | (go_at_call 12; refine (HL.out).mono ?_; rintro e w' ⟨rfl, rfl⟩) | fail)
    go_ret
    exact ⟨rfl, HO4.out⟩
end Go.Proofs.Ytblhbfniomlfkaa
