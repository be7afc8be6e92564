/- Join: four of one level. -/
import Derived.Test.YtblhbfniomlfkaaLeaf
namespace Go.Proofs.Ytblhbfniomlfkaa
open Go.RowKit

/-- The j-th of four. -/
def four (k0 k1 k2 k3 j : Nat) : Nat := if j = 0 then k0 else if j = 1 then k1 else if j = 2 then k2 else k3
theorem four0 (a b c d : Nat) : four a b c d 0 = a := rfl
theorem four1 (a b c d : Nat) : four a b c d 1 = b := rfl
theorem four2 (a b c d : Nat) : four a b c d 2 = c := rfl
theorem four3 (a b c d : Nat) : four a b c d 3 = d := rfl

def lvN (ns : List Nd) (i : Nat) : Nat := (ns.getD i default).lv
def cntN (ns : List Nd) (i : Nat) : Nat := (ns.getD i default).cnt

/-- May kid j be one of a join's? -/
def kidOk (ns : List Nd) (k0 k : Nat) : Prop := k < ns.length ∧ lvN ns k = lvN ns k0
instance (ns : List Nd) (k0 k : Nat) : Decidable (kidOk ns k0 k) := by unfold kidOk; infer_instance

/-- The count of the first j kids. -/
def sumTo (ns : List Nd) (ks : Nat → Nat) : Nat → Nat
  | 0 => 0
  | j + 1 => min (sumTo ns ks j + cntN ns (ks j)) 4611686018427387904
theorem sumTo_le (ns : List Nd) (ks : Nat → Nat) (j : Nat) : sumTo ns ks j ≤ 4611686018427387904 := by
  cases j with
  | zero => simp [sumTo]
  | succ j => exact Nat.min_le_right _ _

def joinKey (ns : List Nd) (k0 k1 k2 k3 : Nat) : Key := ⟨lvN ns k0 + 1, 0, k0, k1, k2, k3⟩

/-- What Join answers, and what it makes of the arena. -/
def JoinPost (A : Ars) (w : World) (k0 k1 k2 k3 : Nat) (e : Ending) (w' : World) : Prop :=
  if kidOk A.ns k0 k0 ∧ kidOk A.ns k0 k1 ∧ kidOk A.ns k0 k2 ∧ kidOk A.ns k0 k3 then
    if lvN A.ns k0 > 43 then A.Step w A.ns A w' ∧ e = .returned (.tuple #[.int .u32 0, errV 7])
    else FindPost A w (joinKey A.ns k0 k1 k2 k3) (sumTo A.ns (four k0 k1 k2 k3) 4) e w'
  else A.Step w A.ns A w' ∧ e = .returned (.tuple #[.int .u32 0, errV 4])

def kidsCells (k0 k1 k2 k3 : Nat) : Array Value := #[.int .u32 k0, .int .u32 k1, .int .u32 k2, .int .u32 k3]

structure JoinRel (A : Ars) (w : World) (k0 k1 k2 k3 j : Nat) (wr : World) : Prop where
  le : j ≤ 4
  ok : ∀ i, i < j → kidOk A.ns k0 (four k0 k1 k2 k3 i)
  box : Blk wr w.heap.size 91 (kidsCells k0 k1 k2 k3)
  only : Only (fun _ => False) w wr

theorem JoinRel.bad {A : Ars} {w wr : World} {k0 k1 k2 k3 j : Nat} (h : JoinRel A w k0 k1 k2 k3 j wr) (hj : j < 4) (hA : A.At w) (hI : A.Inv) (hbad : ¬ kidOk A.ns k0 (four k0 k1 k2 k3 j)) (n : Nat) :
    JoinPost A w k0 k1 k2 k3 (.returned (.tuple #[.int .u32 0, .iface 96 (.int .i64 4)])) (wr.drewN n) := by
  unfold JoinPost
  rw [if_neg]
  · exact ⟨Ars.Step.same hA hI (h.only.drewN n), by simp [errV]⟩
  · rintro ⟨h0, h1, h2, h3⟩
    apply hbad
    match j, hj with
    | 0, _ => exact h0
    | 1, _ => exact h1
    | 2, _ => exact h2
    | 3, _ => exact h3

theorem JoinRel.done {A : Ars} {w wr : World} {k0 k1 k2 k3 : Nat} (h : JoinRel A w k0 k1 k2 k3 4 wr) : kidOk A.ns k0 k0 ∧ kidOk A.ns k0 k1 ∧ kidOk A.ns k0 k2 ∧ kidOk A.ns k0 k3 :=
  ⟨h.ok 0 (by omega), h.ok 1 (by omega), h.ok 2 (by omega), h.ok 3 (by omega)⟩

theorem sum_next (s c : Nat) : (if (4611686018427387904 : Int) < (s : Int) + (c : Int) then (4611686018427387904 : Int) else (s : Int) + (c : Int)) = ((min (s + c) 4611686018427387904 : Nat) : Int) := by
  split <;> omega
theorem JoinRel.next {A : Ars} {w wr : World} {k0 k1 k2 k3 j : Nat} (h : JoinRel A w k0 k1 k2 k3 j wr) (hj : j < 4) (hok : kidOk A.ns k0 (four k0 k1 k2 k3 j)) (n : Nat) : JoinRel A w k0 k1 k2 k3 (j + 1) (wr.drewN n) :=
  ⟨hj, fun i hi => by
    by_cases e : i = j
    · subst e; exact hok
    · exact h.ok i (by omega), h.box.drewN n, h.only.drewN n⟩
theorem JoinRel.deep {A : Ars} {w wr : World} {k0 k1 k2 k3 : Nat} (h : JoinRel A w k0 k1 k2 k3 4 wr) (hA : A.At w) (hI : A.Inv) (hl : lvN A.ns k0 > 43) (n : Nat) :
    JoinPost A w k0 k1 k2 k3 (.returned (.tuple #[.int .u32 0, .iface 96 (.int .i64 7)])) (wr.drewN n) := by
  unfold JoinPost
  rw [if_pos h.done, if_pos hl]
  exact ⟨Ars.Step.same hA hI (h.only.drewN n), by simp [errV]⟩
theorem JoinRel.found {A : Ars} {w wr w' : World} {k0 k1 k2 k3 : Nat} {e : Ending} (h : JoinRel A w k0 k1 k2 k3 4 wr) (hl : ¬ lvN A.ns k0 > 43) (hf : FindPost A w (joinKey A.ns k0 k1 k2 k3) (sumTo A.ns (four k0 k1 k2 k3) 4) e w') : JoinPost A w k0 k1 k2 k3 e w' := by
  unfold JoinPost
  rw [if_pos h.done, if_neg hl]
  exact hf
theorem FindPost.later {A : Ars} {w wr w' : World} {k : Key} {c : Nat} {e : Ending} (ho : Only (fun _ => False) w wr) (h : FindPost A wr k c e w') : FindPost A w k c e w' := by
  obtain ⟨A', hS, he⟩ := h
  exact ⟨A', ⟨hS.at_, hS.inv, hS.ns, hS.p, hS.es, hS.ve, hS.most, (ho.mono (fun _ _ h => h.elim)).trans hS.only (fun _ _ h => h), fun k hk => (hS.foot k hk).imp id (fun h => Nat.le_trans ho.size h)⟩, he⟩

theorem idx4_0 (a b c d : Int) (W : World) : (Instr.index 91 (.agg #[.int .u32 a, .int .u32 b, .int .u32 c, .int .u32 d]) (.int .i64 0)).run Try.prog W = .ok (.int .u32 a) W := by kernel_rfl
theorem idx4_1 (a b c d : Int) (W : World) : (Instr.index 91 (.agg #[.int .u32 a, .int .u32 b, .int .u32 c, .int .u32 d]) (.int .i64 1)).run Try.prog W = .ok (.int .u32 b) W := by kernel_rfl
theorem idx4_2 (a b c d : Int) (W : World) : (Instr.index 91 (.agg #[.int .u32 a, .int .u32 b, .int .u32 c, .int .u32 d]) (.int .i64 2)).run Try.prog W = .ok (.int .u32 c) W := by kernel_rfl
theorem idx4_3 (a b c d : Int) (W : World) : (Instr.index 91 (.agg #[.int .u32 a, .int .u32 b, .int .u32 c, .int .u32 d]) (.int .i64 3)).run Try.prog W = .ok (.int .u32 d) W := by kernel_rfl
theorem idx4 (k0 k1 k2 k3 j : Nat) (hj : j < 4) (W : World) : (Instr.index 91 (.agg #[.int .u32 k0, .int .u32 k1, .int .u32 k2, .int .u32 k3]) (.int .i64 (j : Int))).run Try.prog W = .ok (.int .u32 (four k0 k1 k2 k3 j)) W :=
  match j, hj with
  | 0, _ => idx4_0 _ _ _ _ W
  | 1, _ => idx4_1 _ _ _ _ W
  | 2, _ => idx4_2 _ _ _ _ W
  | 3, _ => idx4_3 _ _ _ _ W

theorem Ars.At.nodes2 {A : Ars} {w : World} (hA : A.At w) {i j : Nat} (hi : i < A.ns.length) (hj : j < A.ns.length) : ∃ g cap, A.vn = .slice (some ⟨g, 0, none⟩) A.ns.length cap ∧ A.ns.length ≤ 9223372036854775807 ∧ g < w.heap.size ∧
    NodeAt w g i (A.ns.getD i default) ∧ NodeAt w g j (A.ns.getD j default) := by
  obtain ⟨g, cap, hv, hm, hg, hc⟩ := hA.node hi
  obtain ⟨g', cap', hv', hm', hg', hc'⟩ := hA.node hj
  have h := hv.symm.trans hv'
  simp only [Value.slice.injEq, Option.some.injEq, Addr.mk.injEq] at h
  obtain rfl : g = g' := h.1.1
  exact ⟨g, cap, hv, hm, hg, hc, hc'⟩

set_option maxRecDepth 100000 in
set_option maxHeartbeats 2000000 in
theorem Join_any (A : Ars) (k0 k1 k2 k3 : Nat) (w : World) (hA : A.At w) (hI : A.Inv) (hN : A.ns.length < 1073741824) (h0 : k0 < 4294967296) (h1 : k1 < 4294967296) (h2 : k2 < 4294967296) (h3 : k3 < 4294967296) :
    Calls Try.prog 42 #[.pointer (some ⟨A.p, 0, none⟩), .agg (kidsCells k0 k1 k2 k3)] w (JoinPost A w k0 k1 k2 k3) := by
  have hidx := idx4 k0 k1 k2 k3
  have hlt : ∀ j, four k0 k1 k2 k3 j < 4294967296 := by
    intro j
    unfold four
    split
    · exact h0
    split
    · exact h1
    split
    · exact h2
    · exact h3
  have hp := hA.blk.lt
  have hhas := fun i W hW hi => has_any A i W hW hi
  have HA := Lib.hid hA
  have HI := Lib.hid hI
  have HX := Lib.hid hidx
  have HL := Lib.hid hlt
  have HH := Lib.hid hhas
  clear hA hI hidx hlt hhas
  unfold kidsCells
  go_enter Try.func42, Try.ntmps42
  go_wp2
  go_loopw [6, 11] (fun c v wr => ∃ j : Nat, v = .int .i64 j ∧ c = .int .u64 (sumTo A.ns (four k0 k1 k2 k3) j) ∧ JoinRel A w k0 k1 k2 k3 j wr) (fun _ v _ => 4 - (intOf v).toNat)
  case atStart => exact ⟨0, rfl, rfl, by omega, fun i hi => by omega, Blk.new _ _ _, (Only.refl _ _).alloc _⟩
  case round =>
    obtain ⟨j, rfl, rfl, hR⟩ := hrel
    have hle := hR.le
    have hAr := HA.out.keep hR.only (fun _ _ h => h)
    have hbl := hR.box.lt
    by_cases hj : j < 4
    · have hx := HX.out j hj
      obtain ⟨q, hq⟩ : ∃ q, q = four k0 k1 k2 k3 j := ⟨_, rfl⟩
      rw [← hq] at hx
      have hql := HL.out j
      rw [← hq] at hql
      have hk0 : q < A.ns.length → k0 < A.ns.length := fun h => by
        by_cases e : j = 0
        · subst e; rw [hq] at h; exact h
        · exact (hR.ok 0 (by omega)).1
      have HQ := Lib.hid hq
      have HR := Lib.hid hR
      have HAr := Lib.hid hAr
      clear hq hR hAr
      have c0 := HAr.out.c0
      have hpr := HAr.out.blk.lt
      have b0 : wr.cell? ⟨w.heap.size, 0, none⟩ = some (.int .u32 k0) := HR.out.box.cell 0
      by_cases hqN : q < A.ns.length
      · have hk0' := hk0 hqN
        have hh := fun n => HH.out q (wr.drewN n) (HAr.out.drewN n) hql
        simp only [hqN, decide_true] at hh
        have HHq := Lib.hid hh
        obtain ⟨g, cap, hv, hm, hg, hcq, hc0⟩ := HAr.out.nodes2 hqN hk0'
        rw [hv] at c0
        have q0 : wr.cell? ⟨g, q * 7, none⟩ = some (.int .i64 (lvN A.ns q)) := hcq.c0
        have q6 : wr.cell? ⟨g, q * 7 + 6, none⟩ = some (.int .u64 (cntN A.ns q)) := hcq.c6
        have z0 : wr.cell? ⟨g, k0 * 7, none⟩ = some (.int .i64 (lvN A.ns k0)) := hc0.c0
        have hlo := sumTo_le A.ns (four k0 k1 k2 k3) j
        have hcq : cntN A.ns q ≤ 4611686018427387904 := HI.out.cnt q hqN
        have hi1 : (q : Int) < (A.ns.length : Int) := by omega
        have hi2 : (k0 : Int) < (A.ns.length : Int) := by omega
        have hi3 : (0 : Int) ≤ (q : Int) := by omega
        have hi4 : (0 : Int) ≤ (k0 : Int) := by omega
        clear hh hk0 hv hc0
        by_cases hlv : lvN A.ns q = lvN A.ns k0
        · have hd : ((lvN A.ns q : Int) != (lvN A.ns k0 : Int)) = false := by rw [hlv]; simp
          have HLV := Lib.hid hlv
          clear hlv
          go_wp2_with fail
          go_quiet ((go_at_call 67; exact Calls.quiet_of_same ((HHq.out _).mono fun _ _ h => ⟨h.1, h.2.symm⟩)))
          go_wp2
          go_roundw
          case rel =>
            go_light
            exact ⟨j + 1, by go_num, by rw [sum_next, HQ.out]; rfl, HR.out.next hj (by rw [← HQ.out]; exact ⟨hqN, HLV.out⟩) _⟩
          case measure => simp [intOf]; omega
        · have hd : ((lvN A.ns q : Int) != (lvN A.ns k0 : Int)) = true := by simp; omega
          have HLV := Lib.hid hlv
          clear hlv
          go_wp2_with fail
          go_quiet ((go_at_call 67; exact Calls.quiet_of_same ((HHq.out _).mono fun _ _ h => ⟨h.1, h.2.symm⟩)))
          go_wp2
          go_ret2
          go_light
          exact HR.out.bad hj HA.out HI.out (by rw [← HQ.out]; exact fun h => HLV.out h.2) _
      · have hh := fun n => HH.out q (wr.drewN n) (HAr.out.drewN n) hql
        simp only [hqN, decide_false] at hh
        have HHq := Lib.hid hh
        clear hh hk0
        go_wp2_with fail
        go_quiet ((go_at_call 67; exact Calls.quiet_of_same ((HHq.out _).mono fun _ _ h => ⟨h.1, h.2.symm⟩)))
        go_wp2
        go_ret2
        go_light
        exact HR.out.bad hj HA.out HI.out (by rw [← HQ.out]; exact fun h => hqN h.1) _
    · obtain rfl : j = 4 := by omega
      have hd := hR.done
      have hk0 := hd.1.1
      obtain ⟨g, cap, hv, hm, hg, hc0⟩ := hAr.node hk0
      have c0 := hAr.c0
      rw [hv] at c0
      have hpr := hAr.blk.lt
      have z0 : wr.cell? ⟨g, k0 * 7, none⟩ = some (.int .i64 (lvN A.ns k0)) := hc0.c0
      have b0 : wr.cell? ⟨w.heap.size, 0, none⟩ = some (.int .u32 k0) := hR.box.cell 0
      have b1 : wr.cell? ⟨w.heap.size, 1, none⟩ = some (.int .u32 k1) := hR.box.cell 1
      have b2 : wr.cell? ⟨w.heap.size, 2, none⟩ = some (.int .u32 k2) := hR.box.cell 2
      have b3 : wr.cell? ⟨w.heap.size, 3, none⟩ = some (.int .u32 k3) := hR.box.cell 3
      have hlv : lvN A.ns k0 < 1000 := (HI.out.fit k0 hk0).1
      have hi2 : (k0 : Int) < (A.ns.length : Int) := by omega
      have hi4 : (0 : Int) ≤ (k0 : Int) := by omega
      have hw : IntKind.i64.wrap ((lvN A.ns k0 : Int) + 1) = (lvN A.ns k0 : Int) + 1 := IntWalk.i64_in _ (by omega)
      have hs4 := sumTo_le A.ns (four k0 k1 k2 k3) 4
      have HR := Lib.hid hR
      have HAr := Lib.hid hAr
      clear hR hAr hv hc0 hd
      by_cases hdeep : lvN A.ns k0 > 43
      · go_wp2_with fail
        go_quiet (fail)
        go_wp2
        go_ret2
        go_light
        exact HR.out.deep HA.out HI.out hdeep _
      · have hf : ∀ n, Calls Try.prog 64 #[.pointer (some ⟨A.p, 0, none⟩), .agg #[.int .i64 ((lvN A.ns k0 : Int) + 1), .int .u32 0, .int .u32 k0, .int .u32 k1, .int .u32 k2, .int .u32 k3], .int .u64 (sumTo A.ns (four k0 k1 k2 k3) 4)] (wr.drewN n)
            (FindPost A (wr.drewN n) (joinKey A.ns k0 k1 k2 k3) (sumTo A.ns (four k0 k1 k2 k3) 4)) := fun n =>
          find_any A (joinKey A.ns k0 k1 k2 k3) _ _ (HAr.out.drewN n) HI.out hN (by simp [Nd.Fit, Key.nd, joinKey]; omega) hs4
        have HFd := Lib.hid hf
        clear hf
        go_wp2_with fail
        go_quiet (fail)
        go_wp2_with fail
        refine (HFd.out _).mono ?_
        rintro e w' ⟨A', hS, rfl⟩
        go_wp2
        go_ret2
        go_light
        exact HR.out.found hdeep (FindPost.later (HR.out.only.drewN _) ⟨A', hS, rfl⟩)
end Go.Proofs.Ytblhbfniomlfkaa
