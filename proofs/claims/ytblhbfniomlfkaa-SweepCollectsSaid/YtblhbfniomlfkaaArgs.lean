/- What the walks want of the slices that come in, out of how they read. -/
import Derived.Test.YtblhbfniomlfkaaSweep
import Derived.Deep.Slices
import Derived.ProofKit
import Derived.OpenShut
import Derived.ChangeOld
import Derived.Below
namespace Go.Proofs.Ytblhbfniomlfkaa
open Go.RowKit Go.ChangeShapes Go.WideShapes Go.Deep

section
variable {H : Type} {enc : TypeId × Value → H} {w : World} {base : Nat} {spare : Nat → Bool} {held : Bool} {fuel len cap : Nat} {a : Option Addr} {x : DataW H × List MemPlace}
theorem add_off (b off : Nat) (i : Nat) : (Addr.add ⟨b, off, none⟩ i) = ⟨b, off + i, none⟩ := by
  unfold Addr.add
  split
  · rename_i h; subst h; rfl
  · rfl
theorem spot_of {a : Addr} {n : Nat} {cs : List Value} (h : w.cells? base (a.add (0 * n)) n = some cs) (hn : 0 < n) : a.spot = none := by
  rw [Nat.zero_mul] at h
  have k := World.cells?_some h
  have h0 := k.2.2 0 hn
  rw [List.getElem?_eq_getElem (by rw [k.2.1]; exact hn)] at h0
  simpa [Addr.add] using World.cell?_spot h0
theorem argU_of (h : DataW.trod enc Try.prog w base spare held fuel 22 [.slice a len cap] = some x) : ArgU w a len := by
  rcases open_slice1 Try.underlying22 (by kernel_rfl) h with ⟨hcs, _⟩ | ⟨a', len', cap', m, n, V, D, Pl, hcs, _, hl, hm, hmm, _, hx⟩
  · simp only [List.cons.injEq, Value.slice.injEq, and_true] at hcs
    obtain ⟨rfl, rfl, rfl⟩ := hcs
    exact ⟨by omega, fun i hi => by omega⟩
  · simp only [List.cons.injEq, Value.slice.injEq, and_true] at hcs
    obtain ⟨rfl, rfl, rfl⟩ := hcs
    have hle : len ≤ m := by rw [hmm]; split <;> omega
    refine ⟨by unfold maxLen at hm; omega, fun i hi => ?_⟩
    obtain ⟨h1, h2⟩ := hx i (by omega)
    obtain ⟨z, hv, _, hz⟩ := DataW.trod_int Try.underlying32 h2
    simp only [List.cons.injEq, and_true] at hv
    obtain ⟨b, off, sp⟩ := a'
    have hsp : sp = none := by simpa [Addr.add] using World.cell?_spot (hx 0 (by omega)).1
    subst hsp
    rw [add_off, hv] at h1
    have hw := bounds_u32 hz
    refine ⟨b, off, z.toNat, rfl, by omega, ?_⟩
    rw [h1, Int.toNat_of_nonneg (by omega)]
theorem argI_of (h : DataW.trod enc Try.prog w base spare held fuel 24 [.slice a len cap] = some x) : ArgI w a len := by
  rcases open_slice1 Try.underlying24 (by kernel_rfl) h with ⟨hcs, _⟩ | ⟨a', len', cap', m, n, V, D, Pl, hcs, _, hl, hm, hmm, _, hx⟩
  · simp only [List.cons.injEq, Value.slice.injEq, and_true] at hcs
    obtain ⟨rfl, rfl, rfl⟩ := hcs
    exact ⟨by omega, fun i hi => by omega⟩
  · simp only [List.cons.injEq, Value.slice.injEq, and_true] at hcs
    obtain ⟨rfl, rfl, rfl⟩ := hcs
    have hle : len ≤ m := by rw [hmm]; split <;> omega
    refine ⟨by unfold maxLen at hm; omega, fun i hi => ?_⟩
    obtain ⟨h1, h2⟩ := hx i (by omega)
    obtain ⟨z, hv, _, hz⟩ := DataW.trod_int Try.underlying3 h2
    simp only [List.cons.injEq, and_true] at hv
    obtain ⟨b, off, sp⟩ := a'
    have hsp : sp = none := by simpa [Addr.add] using World.cell?_spot (hx 0 (by omega)).1
    subst hsp
    rw [add_off, hv] at h1
    have hw := bounds_i64 hz
    exact ⟨b, off, z, rfl, by unfold In64; omega, h1⟩
theorem arg4_of (h : DataW.trod enc Try.prog w base spare held fuel 23 [.slice a len cap] = some x) : Arg4 w a len := by
  rcases open_slice Try.underlying23 h with ⟨hcs, _⟩ | ⟨a', len', cap', m, n, D, Pl, hcs, _, hl, hm, hmm, _, hx⟩
  · simp only [List.cons.injEq, Value.slice.injEq, and_true] at hcs
    obtain ⟨rfl, rfl, rfl⟩ := hcs
    exact ⟨by omega, fun i hi => by omega⟩
  · simp only [List.cons.injEq, Value.slice.injEq, and_true] at hcs
    obtain ⟨rfl, rfl, rfl⟩ := hcs
    have hle : len ≤ m := by rw [hmm]; split <;> omega
    refine ⟨by unfold maxLen at hm; omega, fun i hi => ?_⟩
    obtain ⟨cs', h1, h2⟩ := hx i (by omega)
    have c33 : Try.prog.cellsOf 33 = 4 := by kernel_rfl
    have c3 : Try.prog.cellsOf 3 = 1 := by kernel_rfl
    rw [c33] at h1
    obtain ⟨_, hlen, hc⟩ := World.cells?_some h1
    obtain ⟨xs, m', _, _, _, hxs, he⟩ := DataW.trod_array Try.underlying33 h2
    rw [c3] at he
    match cs', hlen with
    | [v0, v1, v2, v3], _ =>
      obtain ⟨b, off, sp⟩ := a'
      have g0 := hc 0 (by omega)
      have g1 := hc 1 (by omega)
      have g2 := hc 2 (by omega)
      have g3 := hc 3 (by omega)
      obtain ⟨cs0, k1, _⟩ := hx 0 (by omega)
      have hsp : sp = none := spot_of k1 (by rw [c33]; omega)
      subst hsp
      rw [add_off, add_off] at g0 g1 g2 g3
      have e0 := he 0 (by omega)
      have e1 := he 1 (by omega)
      have e2 := he 2 (by omega)
      have e3 := he 3 (by omega)
      rw [List.getElem?_eq_getElem (by omega)] at e0 e1 e2 e3
      obtain ⟨y0, hv0, _, hz0⟩ := DataW.trod_int Try.underlying3 e0
      obtain ⟨y1, hv1, _, hz1⟩ := DataW.trod_int Try.underlying3 e1
      obtain ⟨y2, hv2, _, hz2⟩ := DataW.trod_int Try.underlying3 e2
      obtain ⟨y3, hv3, _, hz3⟩ := DataW.trod_int Try.underlying3 e3
      simp at hv0 hv1 hv2 hv3
      subst hv0 hv1 hv2 hv3
      exact ⟨b, off, y0, y1, y2, y3, rfl, g0, g1, g2, g3, bounds_i64 hz0, bounds_i64 hz1, bounds_i64 hz2, bounds_i64 hz3⟩
end
end Go.Proofs.Ytblhbfniomlfkaa
