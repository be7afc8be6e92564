/- The arena's functions that only read: has, Len, Most, Level, Bits, Kids, Count; mix. -/
import Derived.Test.YtblhbfniomlfkaaMem
namespace Go.Proofs.Ytblhbfniomlfkaa
open Go.RowKit

def mixI (h x : Int) : Int :=
  let a := IntKind.u64.wrap (bits BinOp.xor IntKind.u64 h x * 11400714819323198485)
  bits BinOp.xor IntKind.u64 a (a / 536870912)

theorem mix_any (h x : Int) (w : World) : Calls Try.prog 80 #[.int .u64 h, .int .u64 x] w fun e w' => e = .returned (.int .u64 (mixI h x)) ∧ w = w' := by
  go_enter Try.func80, Try.ntmps80
  go_wp2
  go_ret
  exact ⟨rfl, rfl⟩

theorem has_any (A : Ars) (i : Nat) (w : World) (hA : A.At w) (hi : i < 4294967296) :
    Calls Try.prog 67 #[.pointer (some ⟨A.p, 0, none⟩), .int .u32 i] w fun e w' => e = .returned (.bool (decide (i < A.ns.length))) ∧ w = w' := by
  have c0 := hA.c0
  obtain ⟨a, cap, hv, hm⟩ := own_slice hA.own
  rw [hv] at c0
  unfold maxLen at hm
  clear hv hA
  go_enter Try.func67, Try.ntmps67
  go_wp2
  go_ret
  exact ⟨rfl, rfl⟩

/-- What the walks want of node i. -/
structure NodeAt (w : World) (g i : Nat) (n : Nd) : Prop where
  c0 : w.cell? ⟨g, i * 7, none⟩ = some (.int .i64 n.lv)
  c1 : w.cell? ⟨g, i * 7 + 1, none⟩ = some (.int .u32 n.bits)
  c2 : w.cell? ⟨g, i * 7 + 2, none⟩ = some (.int .u32 n.k0)
  c3 : w.cell? ⟨g, i * 7 + 3, none⟩ = some (.int .u32 n.k1)
  c4 : w.cell? ⟨g, i * 7 + 4, none⟩ = some (.int .u32 n.k2)
  c5 : w.cell? ⟨g, i * 7 + 5, none⟩ = some (.int .u32 n.k3)
  c6 : w.cell? ⟨g, i * 7 + 6, none⟩ = some (.int .u64 n.cnt)

theorem Ars.At.node {A : Ars} {w : World} (hA : A.At w) {i : Nat} (hi : i < A.ns.length) : ∃ g cap, A.vn = .slice (some ⟨g, 0, none⟩) A.ns.length cap ∧ A.ns.length ≤ 9223372036854775807 ∧ g < w.heap.size ∧ NodeAt w g i (A.ns.getD i default) := by
  obtain ⟨g, cap, hv, h1, h2⟩ := own_form hA.own (by omega)
  unfold maxLen at h2
  have h := fun j hj => own_node (hv ▸ hA.own) rfl hi j hj
  exact ⟨g, cap, hv, by omega, own_lt hA.own (by rw [hv]; rfl), h 0 (by omega), h 1 (by omega), h 2 (by omega), h 3 (by omega), h 4 (by omega), h 5 (by omega), h 6 (by omega)⟩

/-- What the walks want of the slots. -/
theorem Ars.At.slotCell {A : Ars} {w : World} (hA : A.At w) {g cap : Nat} (hv : A.vs = .slice (some ⟨g, 0, none⟩) A.ss.length cap) {x : Nat} (hx : x < A.ss.length) : w.cell? ⟨g, x, none⟩ = some (.int .u32 (A.ss.getD x 0 : Nat)) := by
  have h := hA.ows
  rw [hv] at h
  rw [h.cellAt x (by omega)]
  simp [u32s, hx]
theorem Ars.At.emptyCell {A : Ars} {w : World} (hA : A.At w) {g cap : Nat} (hv : A.ve = .slice (some ⟨g, 0, none⟩) A.es.length cap) {x : Nat} (hx : x < A.es.length) : w.cell? ⟨g, x, none⟩ = some (.int .u32 (A.es.getD x 0 : Nat)) := by
  have h := hA.owe
  rw [hv] at h
  rw [h.cellAt x (by omega)]
  simp [u32s, hx]

def Ars.lvI (A : Ars) (i : Nat) : Int := if i < A.ns.length then ((A.ns.getD i default).lv : Int) else -1
def Ars.bitsI (A : Ars) (i : Nat) : Nat := if i < A.ns.length then (A.ns.getD i default).bits else 0
def Ars.cntI (A : Ars) (i : Nat) : Nat := if i < A.ns.length then (A.ns.getD i default).cnt else 0

theorem Level_any (A : Ars) (i : Nat) (w : World) (hA : A.At w) (hi : i < 4294967296) :
    Calls Try.prog 43 #[.pointer (some ⟨A.p, 0, none⟩), .int .u32 i] w fun e w' => e = .returned (.int .i64 (A.lvI i)) ∧ w = w' := by
  have h1 := has_any A i w hA hi
  have c0 := hA.c0
  unfold Ars.lvI
  by_cases hlt : i < A.ns.length
  · obtain ⟨g, cap, hv, hm, hg, hc⟩ := hA.node hlt
    rw [hv] at c0
    have d0 := hc.c0
    rw [if_pos hlt]
    simp only [hlt, decide_true] at h1
    have H1 := Lib.hid h1
    clear h1 hv hA hc
    generalize (A.ns.getD i default).lv = x at *
    generalize A.ns.length = N at *
    go_enter Try.func43, Try.ntmps43
    go_wp2_with (go_at_call 67; refine (H1.out).mono ?_; rintro e w' ⟨rfl, rfl⟩)
    go_ret
    exact ⟨rfl, rfl⟩
  · rw [if_neg hlt]
    simp only [hlt, decide_false] at h1
    have H1 := Lib.hid h1
    clear h1 hA
    go_enter Try.func43, Try.ntmps43
    go_wp2_with (go_at_call 67; refine (H1.out).mono ?_; rintro e w' ⟨rfl, rfl⟩)
    go_ret
    exact ⟨rfl, rfl⟩

theorem Bits_any (A : Ars) (i : Nat) (w : World) (hA : A.At w) (hi : i < 4294967296) :
    Calls Try.prog 46 #[.pointer (some ⟨A.p, 0, none⟩), .int .u32 i] w fun e w' => e = .returned (.int .u32 (A.bitsI i)) ∧ w = w' := by
  have h1 := has_any A i w hA hi
  have c0 := hA.c0
  unfold Ars.bitsI
  by_cases hlt : i < A.ns.length
  · obtain ⟨g, cap, hv, hm, hg, hc⟩ := hA.node hlt
    rw [hv] at c0
    have d0 := hc.c1
    rw [if_pos hlt]
    simp only [hlt, decide_true] at h1
    have H1 := Lib.hid h1
    clear h1 hv hA hc
    generalize (A.ns.getD i default).bits = x at *
    generalize A.ns.length = N at *
    go_enter Try.func46, Try.ntmps46
    go_wp2_with (go_at_call 67; refine (H1.out).mono ?_; rintro e w' ⟨rfl, rfl⟩)
    go_ret
    exact ⟨rfl, rfl⟩
  · rw [if_neg hlt]
    simp only [hlt, decide_false] at h1
    have H1 := Lib.hid h1
    clear h1 hA
    go_enter Try.func46, Try.ntmps46
    go_wp2_with (go_at_call 67; refine (H1.out).mono ?_; rintro e w' ⟨rfl, rfl⟩)
    go_ret
    exact ⟨rfl, rfl⟩

theorem Count_any (A : Ars) (i : Nat) (w : World) (hA : A.At w) (hi : i < 4294967296) :
    Calls Try.prog 47 #[.pointer (some ⟨A.p, 0, none⟩), .int .u32 i] w fun e w' => e = .returned (.int .u64 (A.cntI i)) ∧ w = w' := by
  have h1 := has_any A i w hA hi
  have c0 := hA.c0
  unfold Ars.cntI
  by_cases hlt : i < A.ns.length
  · obtain ⟨g, cap, hv, hm, hg, hc⟩ := hA.node hlt
    rw [hv] at c0
    have d0 := hc.c6
    rw [if_pos hlt]
    simp only [hlt, decide_true] at h1
    have H1 := Lib.hid h1
    clear h1 hv hA hc
    generalize (A.ns.getD i default).cnt = x at *
    generalize A.ns.length = N at *
    go_enter Try.func47, Try.ntmps47
    go_wp2_with (go_at_call 67; refine (H1.out).mono ?_; rintro e w' ⟨rfl, rfl⟩)
    go_ret
    exact ⟨rfl, rfl⟩
  · rw [if_neg hlt]
    simp only [hlt, decide_false] at h1
    have H1 := Lib.hid h1
    clear h1 hA
    go_enter Try.func47, Try.ntmps47
    go_wp2_with (go_at_call 67; refine (H1.out).mono ?_; rintro e w' ⟨rfl, rfl⟩)
    go_ret
    exact ⟨rfl, rfl⟩

theorem Len_any (A : Ars) (w : World) (hA : A.At w) : Calls Try.prog 12 #[.pointer (some ⟨A.p, 0, none⟩)] w fun e w' => e = .returned (.int .i64 A.ns.length) ∧ w = w' := by
  have c0 := hA.c0
  obtain ⟨a, cap, hv, hm⟩ := own_slice hA.own
  rw [hv] at c0
  unfold maxLen at hm
  clear hv hA
  go_enter Try.func12, Try.ntmps12
  go_wp2
  go_ret
  exact ⟨rfl, rfl⟩

theorem Most_any (A : Ars) (w : World) (hA : A.At w) : Calls Try.prog 13 #[.pointer (some ⟨A.p, 0, none⟩)] w fun e w' => e = .returned (.int .i64 A.most) ∧ w = w' := by
  have c3 := hA.c3
  clear hA
  go_enter Try.func13, Try.ntmps13
  go_wp2
  go_ret
  exact ⟨rfl, rfl⟩

def Nd.kidsV (n : Nd) : Value := .agg #[.int .u32 n.k0, .int .u32 n.k1, .int .u32 n.k2, .int .u32 n.k3]
def Ars.kidsV (A : Ars) (i : Nat) : Value := if i < A.ns.length then (A.ns.getD i default).kidsV else .agg #[.int .u32 0, .int .u32 0, .int .u32 0, .int .u32 0]

theorem Kids_any (A : Ars) (i : Nat) (w : World) (hA : A.At w) (hi : i < 4294967296) :
    Calls Try.prog 48 #[.pointer (some ⟨A.p, 0, none⟩), .int .u32 i] w fun e w' => e = .returned (A.kidsV i) ∧ Only (fun _ => False) w w' := by
  have h1 := fun w hA => has_any A i w hA hi
  have c0 := hA.c0
  have hp := hA.blk.lt
  unfold Ars.kidsV
  have H2 := Lib.hid hA
  by_cases hlt : i < A.ns.length
  · obtain ⟨g, cap, hv, hm, hg, hc⟩ := hA.node hlt
    rw [hv] at c0
    have d0 := hc.c2
    have d1 := hc.c3
    have d2 := hc.c4
    have d3 := hc.c5
    rw [if_pos hlt]
    simp only [hlt, decide_true] at h1
    have H1 := Lib.hid h1
    clear h1 hv hA hc
    unfold Nd.kidsV
    generalize (A.ns.getD i default) = x at *
    generalize A.ns.length = N at *
    go_enter Try.func48, Try.ntmps48
    go_wp2_with (go_at_call 67; refine (H1.out _ (H2.out.alloc _)).mono ?_; rintro e w' ⟨rfl, rfl⟩)
    go_outline
    exact bodyPost_ret (v := .agg #[.int .u32 x.k0, .int .u32 x.k1, .int .u32 x.k2, .int .u32 x.k3]) (by simp [results, go_sem]) rfl ⟨rfl, (Only.refl _ _).alloc _⟩
  · rw [if_neg hlt]
    simp only [hlt, decide_false] at h1
    have H1 := Lib.hid h1
    clear h1 hA
    go_enter Try.func48, Try.ntmps48
    go_wp2_with (go_at_call 67; refine (H1.out _ (H2.out.alloc _)).mono ?_; rintro e w' ⟨rfl, rfl⟩)
    exact bodyPost_ret (v := .agg #[.int .u32 0, .int .u32 0, .int .u32 0, .int .u32 0]) (by simp [results, go_sem]) rfl ⟨rfl, (Only.refl _ _).alloc _⟩
end Go.Proofs.Ytblhbfniomlfkaa
