/- slot: where a key is, or would be. -/
import Derived.Test.YtblhbfniomlfkaaEq
import Derived.Handy
import Derived.Deep.Light
import Derived.Deep.LoopGhost
import Derived.Laws.Closers25b
namespace Go.Proofs.Ytblhbfniomlfkaa
open Go.RowKit

def hI (k : Key) : Int := mixI (mixI (mixI (mixI (mixI k.lv k.bits) k.k0) k.k1) k.k2) k.k3
def hash (k : Key) : Nat := (hI k).toNat
theorem mixI_lo (h x : Int) : 0 ≤ mixI h x := by unfold mixI; exact bits_lo_u64 _ _ _
theorem hI_lo (k : Key) : 0 ≤ hI k := mixI_lo _ _
theorem slot0 (k : Key) (m : Nat) (hm0 : 0 < m) (hm : m < 1099511627776) : wrap64 ((hI k).tmod m) = ((hash k % m : Nat) : Int) := by
  have h0 := hI_lo k
  obtain ⟨n, hn⟩ := Int.eq_ofNat_of_zero_le h0
  have : n % m < m := Nat.mod_lt _ hm0
  unfold hash
  rw [hn, Int.toNat_natCast, show ((n : Int).tmod (m : Int)) = ((n % m : Nat) : Int) from by rw [Int.tmod_eq_emod_of_nonneg (by omega)]; omega]
  unfold wrap64
  omega
def Key.cells (k : Key) : Array Value := #[.int .i64 k.lv, .int .u32 k.bits, .int .u32 k.k0, .int .u32 k.k1, .int .u32 k.k2, .int .u32 k.k3]
/-- Slot x is the d-th that is looked at; so many are left. -/
structure SlotRel (A : Ars) (k : Key) (left d x : Nat) : Prop where
  left : left + d = A.ss.length
  here : x = (hash k + d) % A.ss.length
  probe : Probe (hash k) A.ss A.ns k d
theorem SlotRel.start (A : Ars) (k : Key) (hm0 : 0 < A.ss.length) : SlotRel A k A.ss.length 0 (hash k % A.ss.length) := ⟨by omega, by rw [Nat.add_zero], hm0, fun e he => by omega⟩
theorem SlotRel.lt {A : Ars} {k : Key} {left d x : Nat} (h : SlotRel A k left d x) : x < A.ss.length := by
  rw [h.here]
  have := h.probe.1
  exact Nat.mod_lt _ (by omega)
theorem SlotRel.next {A : Ars} {k : Key} {left d x i : Nat} (h : SlotRel A k left d x) (hf : ∃ d, d < A.ss.length ∧ A.ss.getD ((hash k + d) % A.ss.length) 0 = 0) (hi : A.ss.getD x 0 = i + 1) (hk : (A.ns.getD i default).key ≠ k) :
    SlotRel A k (left - 1) (d + 1) ((x + 1) % A.ss.length) := by
  have h1 := h.here
  have hp := h.probe.next hf (by rw [← h1]; omega) (by rw [← h1, hi]; exact hk)
  exact ⟨by have := h.left; have := h.probe.1; omega, by rw [h1, Nat.mod_add_mod, Nat.add_assoc], hp⟩
theorem SlotRel.pos {A : Ars} {k : Key} {left d x : Nat} (h : SlotRel A k left d x) : 0 < left := by
  have := h.left; have := h.probe.1; omega

/-- Slot x is where a key is, or would be. -/
structure SlotRes (A : Ars) (k : Key) (x d : Nat) : Prop where
  here : x = (hash k + d) % A.ss.length
  probe : Probe (hash k) A.ss A.ns k d
  stop : A.ss.getD x 0 = 0 ∨ (A.ns.getD (A.ss.getD x 0 - 1) default).key = k
theorem SlotRes.lt {A : Ars} {k : Key} {x d : Nat} (h : SlotRes A k x d) : x < A.ss.length := by
  rw [h.here]
  have := h.probe.1
  exact Nat.mod_lt _ (by omega)

set_option maxRecDepth 100000 in
set_option maxHeartbeats 400000 in
theorem slot_any (A : Ars) (k : Key) (w : World) (hA : A.At w) (hN : A.ns.length < 4294967296) (hm0 : 0 < A.ss.length) (hm : A.ss.length < 1099511627776)
    (hfree : ∃ d, d < A.ss.length ∧ A.ss.getD ((hash k + d) % A.ss.length) 0 = 0) (hent : ∀ x, A.ss.getD x 0 ≤ A.ns.length) (hk : k.lv < 1000 ∧ k.bits < 4294967296 ∧ k.k0 < 4294967296 ∧ k.k1 < 4294967296 ∧ k.k2 < 4294967296 ∧ k.k3 < 4294967296) :
    Calls Try.prog 74 #[.pointer (some ⟨A.p, 0, none⟩), k.val] w fun e w' => ∃ d, Probe (hash k) A.ss A.ns k d ∧ (A.ss.getD ((hash k + d) % A.ss.length) 0 = 0 ∨ (A.ns.getD (A.ss.getD ((hash k + d) % A.ss.length) 0 - 1) default).key = k) ∧
      e = .returned (.int .i64 ((hash k + d) % A.ss.length : Nat)) ∧ Only (fun _ => False) w w' := by
  obtain ⟨hk0, hk1, hk2, hk3, hk4, hk5⟩ := hk
  have i0 : ∀ (w : World) (a b c d : Int), (Instr.index 91 (.agg #[.int .u32 a, .int .u32 b, .int .u32 c, .int .u32 d]) (.int .i64 0)).run Try.prog w = .ok (.int .u32 a) w := fun _ _ _ _ _ => by kernel_rfl
  have i1 : ∀ (w : World) (a b c d : Int), (Instr.index 91 (.agg #[.int .u32 a, .int .u32 b, .int .u32 c, .int .u32 d]) (.int .i64 1)).run Try.prog w = .ok (.int .u32 b) w := fun _ _ _ _ _ => by kernel_rfl
  have i2 : ∀ (w : World) (a b c d : Int), (Instr.index 91 (.agg #[.int .u32 a, .int .u32 b, .int .u32 c, .int .u32 d]) (.int .i64 2)).run Try.prog w = .ok (.int .u32 c) w := fun _ _ _ _ _ => by kernel_rfl
  have i3 : ∀ (w : World) (a b c d : Int), (Instr.index 91 (.agg #[.int .u32 a, .int .u32 b, .int .u32 c, .int .u32 d]) (.int .i64 3)).run Try.prog w = .ok (.int .u32 d) w := fun _ _ _ _ _ => by kernel_rfl
  have c1 := hA.c1
  have hp := hA.blk.lt
  obtain ⟨g, cap, hv, hcap, hcap'⟩ := own_form hA.ows hm0
  unfold maxLen at hcap'
  rw [hv] at c1
  have HA := Lib.hid hA
  have HV := Lib.hid hv
  have HF := Lib.hid hfree
  have HE := Lib.hid hent
  clear hA hv hfree hent
  unfold Key.val
  go_enter Try.func74, Try.ntmps74
  go_wp2_with (go_at_call 80; refine (mix_any _ _ _).mono ?_; rintro e w' ⟨rfl, rfl⟩)
  refine wp_loop_rounds 5 ?_
  rw [rounds_succ]
  go_wp2_with (go_at_call 80; refine (mix_any _ _ _).mono ?_; rintro e w' ⟨rfl, rfl⟩)
  rw [rounds_succ]
  go_wp2_with (go_at_call 80; refine (mix_any _ _ _).mono ?_; rintro e w' ⟨rfl, rfl⟩)
  rw [rounds_succ]
  go_wp2_with (go_at_call 80; refine (mix_any _ _ _).mono ?_; rintro e w' ⟨rfl, rfl⟩)
  rw [rounds_succ]
  go_wp2_with (go_at_call 80; refine (mix_any _ _ _).mono ?_; rintro e w' ⟨rfl, rfl⟩)
  rw [rounds_succ]
  go_wp2_with (go_at_call 80; refine (mix_any _ _ _).mono ?_; rintro e w' ⟨rfl, rfl⟩)
  have e8 := slot0 k A.ss.length hm0 hm
  unfold hI at e8
  rw [e8]
  clear e8
  clear i0 i1 i2 i3
  go_loopg [8] A.ss.length (fun gk v wr => ∃ x d : Nat, v = .int .i64 x ∧ SlotRel A k gk d x ∧ Blk wr w.heap.size 124 k.cells ∧ Only (fun _ => False) w wr)
  case atStart =>
    exact ⟨_, 0, rfl, SlotRel.start A k hm0, Blk.new _ _ _, (Only.refl _ _).alloc _⟩
  case round =>
    obtain ⟨x, d, rfl, hS, hB, hO⟩ := hrel
    have hAr : A.At wr := HA.out.keep hO (fun _ _ h => h)
    have hxm := hS.lt
    have d1 := hAr.c1
    have hpr := hAr.blk.lt
    rw [HV.out] at d1
    have hcell := hAr.slotCell HV.out hxm
    have hent := HE.out x
    have HR := Lib.hid hAr
    have HO := Lib.hid hO
    have HB := Lib.hid hB
    clear hAr hO c1 hp hB
    obtain ⟨s, hs⟩ : ∃ s, s = A.ss.getD x 0 := ⟨_, rfl⟩
    rw [← hs] at hcell hent
    have H0 := Lib.hid hs
    clear hs
    by_cases h0 : s = 0
    · subst h0
      go_wp2
      go_ret
      refine ⟨d, hS.probe, .inl ?_, ?_, HO.out⟩
      · rw [← hS.here, ← H0.out]
      · rw [← hS.here]; rfl
    · obtain ⟨i, rfl⟩ : ∃ i, s = i + 1 := ⟨s - 1, by omega⟩
      have hlt : i < A.ns.length := by omega
      obtain ⟨gn, capn, hvn, hmn, hgn, hcn⟩ := HR.out.node (i := i) (by omega)
      have d0 := HR.out.c0
      rw [hvn] at d0
      obtain ⟨n, hn⟩ : ∃ n, n = A.ns.getD i default := ⟨_, rfl⟩
      rw [← hn] at hcn
      have Hn := Lib.hid hn
      clear hn
      have e0 := hcn.c0
      have e1 := hcn.c1
      have e2 := hcn.c2
      have e3 := hcn.c3
      have e4 := hcn.c4
      have e5 := hcn.c5
      have e6 := hcn.c6
      clear hcn
      have HN := Lib.hid hvn
      clear hvn
      clear hlt
      have heq := run_eqKey 9997 n.key k
      unfold Key.val at heq
      simp only [Nat.reduceAdd] at heq
      have hgr : g < wr.heap.size := own_lt HR.out.ows (by rw [HV.out]; rfl)
      have hwu := IntWalk.u32_in (i : Int) (by omega)
      go_wp2
      go_region
      clear hwu
      have b0 : wr.cell? ⟨w.heap.size, 0, none⟩ = some (.int .i64 k.lv) := HB.out.cell 0
      have b1 : wr.cell? ⟨w.heap.size, 1, none⟩ = some (.int .u32 k.bits) := HB.out.cell 1
      have b2 : wr.cell? ⟨w.heap.size, 2, none⟩ = some (.int .u32 k.k0) := HB.out.cell 2
      have b3 : wr.cell? ⟨w.heap.size, 3, none⟩ = some (.int .u32 k.k1) := HB.out.cell 3
      have b4 : wr.cell? ⟨w.heap.size, 4, none⟩ = some (.int .u32 k.k2) := HB.out.cell 4
      have b5 : wr.cell? ⟨w.heap.size, 5, none⟩ = some (.int .u32 k.k3) := HB.out.cell 5
      have hbl := HB.out.lt
      by_cases hkk : n.key = k
      · have HK := Lib.hid hkk
        simp only [decide_eq_true hkk] at heq
        unfold Nd.key at heq
        simp only at heq
        have HE2 := Lib.hid heq
        clear hkk heq
        go_wp2_with (with_reducible refine wpList_eql 124 (.tmp 64) (.tmp 65) rfl rfl key_guard _ _ true rfl rfl HE2.out ?_)
        go_light
        go_ret
        refine ⟨d, hS.probe, .inr ?_, ?_, (HO.out.alloc _).drew⟩
        · rw [← hS.here, ← H0.out, Nat.add_sub_cancel, ← Hn.out]; exact HK.out
        · rw [← hS.here]; rfl
      · have HK := Lib.hid hkk
        simp only [decide_eq_false hkk] at heq
        unfold Nd.key at heq
        simp only at heq
        have HE2 := Lib.hid heq
        clear hkk heq
        go_wp2_with (with_reducible refine wpList_eql 124 (.tmp 64) (.tmp 65) rfl rfl key_guard _ _ false rfl rfl HE2.out ?_)
        go_light
        go_roundg (gk - 1)
        case measure => have := hS.pos; omega
        case rel =>
          refine ⟨(x + 1) % A.ss.length, d + 1, by go_num, hS.next HF.out H0.out.symm (by rw [← Hn.out]; exact HK.out), (HB.out.alloc _).drew, (HO.out.alloc _).drew⟩

theorem slot_at (A : Ars) (k : Key) (w : World) (hA : A.At w) (hN : A.ns.length < 4294967296) (hm : A.ss.length < 1099511627776) {j : Nat} (ht : Ht hash A.ss A.ns j)
    (hk : k.lv < 1000 ∧ k.bits < 4294967296 ∧ k.k0 < 4294967296 ∧ k.k1 < 4294967296 ∧ k.k2 < 4294967296 ∧ k.k3 < 4294967296) :
    Calls Try.prog 74 #[.pointer (some ⟨A.p, 0, none⟩), k.val] w fun e w' => ∃ x d : Nat, SlotRes A k x d ∧ e = .returned (.int .i64 x) ∧ Only (fun _ => False) w w' :=
  (slot_any A k w hA hN (by have := ht.room; omega) hm (ht.free_from _) (fun x => Nat.le_trans (ht.entry x) ht.le) hk).mono
    fun _ _ ⟨d, hp, hs, he, ho⟩ => ⟨_, d, ⟨rfl, hp, hs⟩, he, ho⟩
end Go.Proofs.Ytblhbfniomlfkaa
