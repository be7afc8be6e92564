/- honeycombref12: New, add, Leaf, Join. A list of nodes in a row of its own, each time anew. -/
import Derived.Test.YtblhbfniomlfkaaPush
import Derived.Test.YtblhbfniomlfkaaRegion3
namespace Go.Proofs.Ytblhbfniomlfkaa
open Go.RowKit

def Nd.rcells (n : Nd) : List Value := [.int .i64 n.lv, .int .u32 n.bits, .int .i64 n.k0, .int .i64 n.k1, .int .i64 n.k2, .int .i64 n.k3, .int .u64 n.cnt]
def Nd.rbox (n : Nd) : Array Value := #[.int .i64 n.lv, .int .u32 n.bits, .int .i64 n.k0, .int .i64 n.k1, .int .i64 n.k2, .int .i64 n.k3, .int .u64 n.cnt]
def rnCells (ns : List Nd) : List Value := ns.flatMap Nd.rcells
theorem rnCells_append (a b : List Nd) : rnCells (a ++ b) = rnCells a ++ rnCells b := by simp [rnCells]
theorem rnCells_length (ns : List Nd) : (rnCells ns).length = ns.length * 7 := by
  induction ns with
  | nil => rfl
  | cons n l ih => simp only [rnCells, List.flatMap_cons, List.length_append, List.length_cons] at *; rw [ih]; simp [Nd.rcells]; omega
theorem rnCells_get (ns : List Nd) (i j : Nat) (hi : i < ns.length) (hj : j < 7) : (rnCells ns)[i * 7 + j]? = (ns.getD i default).rcells[j]? := by
  induction ns generalizing i with
  | nil => simp at hi
  | cons n l ih =>
    have hl : n.rcells.length = 7 := rfl
    cases i with
    | zero =>
      simp only [rnCells, List.flatMap_cons]
      rw [List.getElem?_append_left (by omega)]
      simp
    | succ i =>
      simp only [rnCells, List.flatMap_cons]
      rw [List.getElem?_append_right (by omega), hl, show (i + 1) * 7 + j - 7 = i * 7 + j from by omega]
      exact ih i (by simpa using hi)

/-- The row of the nodes. -/
def RefAt (w : World) (v : Value) (ns : List Nd) : Prop := w.ownsRow 0 36 7 v ns.length (rnCells ns)

theorem RefAt.keep {S : Nat → Prop} {w w' : World} {v : Value} {ns : List Nd} (h : RefAt w v ns) (ho : Only S w w') (hS : ∀ k, v.ownBlock = some k → ¬ S k) : RefAt w' v ns := own_only h ho hS
theorem RefAt.keep0 {w w' : World} {v : Value} {ns : List Nd} (h : RefAt w v ns) (ho : Only (fun _ => False) w w') : RefAt w' v ns := own_only h ho (fun _ _ h => h)

structure RNodeAt (w : World) (g i : Nat) (n : Nd) : Prop where
  c0 : w.cell? ⟨g, i * 7, none⟩ = some (.int .i64 n.lv)
  c1 : w.cell? ⟨g, i * 7 + 1, none⟩ = some (.int .u32 n.bits)
  c2 : w.cell? ⟨g, i * 7 + 2, none⟩ = some (.int .i64 n.k0)
  c3 : w.cell? ⟨g, i * 7 + 3, none⟩ = some (.int .i64 n.k1)
  c4 : w.cell? ⟨g, i * 7 + 4, none⟩ = some (.int .i64 n.k2)
  c5 : w.cell? ⟨g, i * 7 + 5, none⟩ = some (.int .i64 n.k3)
  c6 : w.cell? ⟨g, i * 7 + 6, none⟩ = some (.int .u64 n.cnt)

theorem RefAt.node {w : World} {v : Value} {ns : List Nd} (h : RefAt w v ns) {i : Nat} (hi : i < ns.length) : ∃ g cap, v = .slice (some ⟨g, 0, none⟩) ns.length cap ∧ ns.length ≤ 9223372036854775807 ∧ g < w.heap.size ∧ RNodeAt w g i (ns.getD i default) := by
  obtain ⟨g, cap, hv, h1, h2⟩ := own_form h (by omega)
  unfold maxLen at h2
  unfold RefAt at h
  have hg := own_lt h (by rw [hv]; rfl : v.ownBlock = some g)
  rw [hv] at h
  have hc := fun j hj => (h.cellAt (i * 7 + j) (by omega)).trans (rnCells_get ns i j hi hj)
  exact ⟨g, cap, hv, by omega, hg, hc 0 (by omega), hc 1 (by omega), hc 2 (by omega), hc 3 (by omega), hc 4 (by omega), hc 5 (by omega), hc 6 (by omega)⟩

theorem rnode_info : (Try.prog.info? 36).map (fun i => (i.zero, i.size, i.bytes)) = some (some (.agg #[.int .i64 0, .int .u32 0, .int .i64 0, .int .i64 0, .int .i64 0, .int .i64 0, .int .u64 0]), 7, 56) := by kernel_rfl

section
variable {H : Type} {ops : Array Oper} {rest : List Oper} {o : Oper} {a : Act} {Q : Exit → Act → World → Prop}
/-- append of a whole list to an empty row. -/
theorem wp_copyall (w : World) (hg : o.guard = none) (s x : Operand) (t : TypeId) (hop : o.op = .call { callee := .builtin .append, args := #[s, x], argTypes := #[t, t] }) (ht : Try.prog.underlying t = some (.slice 36)) (v0 : Value) (hs : a.eval s = v0)
    (hown : w.ownsRow 0 36 7 v0 0 []) (ns : List Nd) (hpos : 0 < ns.length) (hn : ns.length < 1073741824) (g cap : Nat) (hx : a.eval x = .slice (some ⟨g, 0, none⟩) ns.length cap) (hR : RefAt w (.slice (some ⟨g, 0, none⟩) ns.length cap) ns)
    (hK : ∀ g' cp w', RefAt w' (.slice (some ⟨g', 0, none⟩) ns.length cp) ns → w.grownBy w' v0.ownBlock → (v0.ownBlock = some g' ∨ g' = w.heap.size) → g' < w'.heap.size → wpList Try.prog ops Q rest (a.put o.dst (.slice (some ⟨g', 0, none⟩) ns.length cp)) w') :
    wpList Try.prog ops Q (o :: rest) a w := by
  obtain ⟨i, hi, hz0, hz1, hz2⟩ := info_parts rnode_info
  refine wpList_append_lies _ hg s x t hop 0 36 i _ 7 56 ht hi hz0 hz1 hz2 rfl (by omega) v0 0 [] hs hown ⟨g, 0, none⟩ ns.length cap (rnCells ns) hx (rnCells_length ns) (fun j u hu => ?_) (fun u hu => ?_)
    hpos (by unfold maxLen; omega) (by omega) (Nat.zero_le _) w.heap.size rfl ?_
  · have hadd : (⟨g, 0, none⟩ : Addr).add j = ⟨g, j, none⟩ := by unfold Addr.add; split <;> simp_all
    have hj : j < ns.length * 7 := by
      rcases Nat.lt_or_ge j (ns.length * 7) with h | h
      · exact h
      · rw [List.getElem?_eq_none (by rw [rnCells_length]; exact h)] at hu; cases hu
    unfold RefAt at hR
    rw [hadd, hR.cellAt j hj]
    exact hu
  · simp only [rnCells, List.mem_flatMap, Nd.rcells] at hu
    obtain ⟨n, _, hu⟩ := hu
    simp only [List.mem_cons, List.not_mem_nil, or_false] at hu
    rcases hu with rfl | rfl | rfl | rfl | rfl | rfl | rfl <;> rfl
  · intro g' cp w' h1 h2 h3 h4
    simp only [Nat.zero_add, List.nil_append] at h1 ⊢
    exact hK g' cp w' h1 h2 h3 h4

/-- append of one node. -/
theorem wp_pushnode (w : World) (hg : o.guard = none) (s x : Operand) (t : TypeId) (hop : o.op = .call { callee := .builtin .append, args := #[s, x], argTypes := #[t, t] }) (ht : Try.prog.underlying t = some (.slice 36)) (v : Value) (ns : List Nd) (hs : a.eval s = v)
    (hR : RefAt w v ns) (hn : ns.length < 1073741824) (n : Nd) (g : Nat) (hx : a.eval x = .slice (some ⟨g, 0, none⟩) 1 1) (hB : Blk w g 36 n.rbox)
    (hK : ∀ g' cp w', RefAt w' (.slice (some ⟨g', 0, none⟩) (ns.length + 1) cp) (ns ++ [n]) → w.grownBy w' v.ownBlock → (v.ownBlock = some g' ∨ g' = w.heap.size) → g' < w'.heap.size → wpList Try.prog ops Q rest (a.put o.dst (.slice (some ⟨g', 0, none⟩) (ns.length + 1) cp)) w') :
    wpList Try.prog ops Q (o :: rest) a w := by
  obtain ⟨i, hi, hz0, hz1, hz2⟩ := info_parts rnode_info
  refine wpList_append_lies _ hg s x t hop 0 36 i _ 7 56 ht hi hz0 hz1 hz2 rfl (by omega) v ns.length (rnCells ns) hs hR ⟨g, 0, none⟩ 1 1 n.rcells hx rfl (World.news_of_block (cs := n.rbox) (t := 36) (fr := (0, 0)) hB) (by simp [Nd.rcells, Value.oneCell'])
    (by omega) (by unfold maxLen; omega) (by omega) (Nat.zero_le _) w.heap.size rfl ?_
  intro g' cp w' h1 h2 h3 h4
  refine hK g' cp w' ?_ h2 h3 h4
  unfold RefAt
  rw [rnCells_append, List.length_append]
  simpa [rnCells] using h1
end

def RNewPost (w : World) (most : Int) (e : Ending) (w' : World) : Prop :=
  ∃ v, e = .returned (.agg #[v, .int .i64 most]) ∧ RefAt w' v [leaf0] ∧ Only (fun _ => False) w w' ∧ ∀ k, v.ownBlock = some k → w.heap.size ≤ k

set_option maxRecDepth 100000 in
theorem rNew_any (most : Int) (w : World) (hm : 64 ≤ most) : Calls Try.prog 39 #[.int .i64 most] w (RNewPost w most) := by
  go_enter Try.func39, Try.ntmps39
  go_wp2
  exact bodyPost_ret (v := .agg #[.slice (some ⟨w.heap.size + 1, 0, none⟩) 1 1, .int .i64 most]) (by simp [results, go_sem]) rfl ⟨_, rfl, by
      have h := World.ownsRow_lit (w.alloc (.cells #[.slice (some ⟨w.heap.size + 1, 0, none⟩) 1 1, .int .i64 most] 29)) (base := 0) (e := 36) (size := 7) #[.int .i64 2, .int .u32 0, .int .i64 0, .int .i64 0, .int .i64 0, .int .i64 0, .int .u64 0] 1 (Nat.zero_le _) (by unfold maxLen; omega) rfl
      rw [World.size_alloc] at h
      exact h, ((Only.refl _ _).alloc _).alloc _, fun k hk => by
      have : w.heap.size + 1 = k := by simpa [Value.ownBlock] using hk
      omega⟩

theorem empty_row (w : World) : (w.alloc (.cells #[] 36)).ownsRow 0 36 7 (.slice (some ⟨w.heap.size, 0, none⟩) 0 0) 0 [] :=
  World.ownsRow_lit w (base := 0) (e := 36) (size := 7) #[] 0 (Nat.zero_le _) (by unfold maxLen; omega) rfl
def Nd.rval (n : Nd) : Value := .agg #[.int .i64 n.lv, .int .u32 n.bits, .int .i64 n.k0, .int .i64 n.k1, .int .i64 n.k2, .int .i64 n.k3, .int .u64 n.cnt]

theorem a4i_under : Try.prog.underlying 33 = some (.array 4 3) := by kernel_rfl
theorem int_size (w : World) : (sizeOf 3).run Try.prog w = .ok 1 w := by kernel_rfl
theorem a4i_guard : Try.prog.eqGuardType Try.prog.depth 33 = false := by kernel_rfl
theorem q4_0 (x y z u : Value) (w : World) : (part 3 #[x, y, z, u] 0).run Try.prog w = .ok x w := by kernel_rfl
theorem q4_1 (x y z u : Value) (w : World) : (part 3 #[x, y, z, u] 1).run Try.prog w = .ok y w := by kernel_rfl
theorem q4_2 (x y z u : Value) (w : World) : (part 3 #[x, y, z, u] 2).run Try.prog w = .ok z w := by kernel_rfl
theorem q4_3 (x y z u : Value) (w : World) : (part 3 #[x, y, z, u] 3).run Try.prog w = .ok u w := by kernel_rfl
theorem run_eq4i (d : Nat) (a0 a1 a2 a3 b0 b1 b2 b3 : Int) (w : World) :
    (Op.equalIn (d + 2) 33 (.agg #[.int .i64 a0, .int .i64 a1, .int .i64 a2, .int .i64 a3]) (.agg #[.int .i64 b0, .int .i64 b1, .int .i64 b2, .int .i64 b3])).run Try.prog w = .ok (a0 == b0 && (a1 == b1 && (a2 == b2 && a3 == b3))) w := by
  have he : ∀ a b : Int, ∀ w, (Op.equalIn (d + 1) 3 (.int .i64 a) (.int .i64 b)).run Try.prog w = .ok (a == b) w := fun a b w => run_equalIn_int w d 3 .i64 .i64 a b int_under
  rw [Op.equalIn]
  simp only [Sem.run_bind, run_underlying a4i_under, Result.andThen_ok, int_size]
  generalize Op.equalIn (d + 1) = E at *
  simp [Std.Legacy.Range.forIn_eq_forIn_range', List.range', q4_0, q4_1, q4_2, q4_3, he]
  by_cases h0 : a0 = b0 <;> by_cases h1 : a1 = b1 <;> by_cases h2 : a2 = b2 <;> by_cases h3 : a3 = b3 <;> simp [h0, h1, h2, h3]

theorem idx_first {ns : List Nd} {k : Key} {i : Nat} (hi : i < ns.length) (hk : (ns.getD i default).key = k) (hno : ∀ j, j < i → (ns.getD j default).key ≠ k) : idx ns k = some i := by
  unfold idx
  rw [List.findIdx?_eq_some_iff_getElem]
  have hg : ns.getD i default = ns[i] := by simp [hi]
  refine ⟨hi, by rw [hg] at hk; simpa using hk, fun j hj => ?_⟩
  have hd := hno j hj
  have hgj : ns.getD j default = ns[j] := by simp [Nat.lt_trans hj hi]
  rw [hgj] at hd
  simpa using hd

theorem Blk.at {w : World} {t : TypeId} {cs : Array Value} {g : Nat} (hg : g = w.heap.size) : Blk (w.alloc (.cells cs t)) g t cs := by subst hg; exact Blk.new _ _ _

/-- What add answers. -/
def RAddPost (ns : List Nd) (most : Int) (k : Key) (c : Nat) (w : World) (e : Ending) (w' : World) : Prop :=
  ∃ v, e = .returned (.tuple #[.agg #[v, .int .i64 most], .int .i64 (findR ns most k c).1, .int .i64 0]) ∧ RefAt w' v (findR ns most k c).2.2 ∧ Only (fun _ => False) w w'

structure RAddLoop (ns : List Nd) (v : Value) (most : Int) (k : Key) (c : Nat) (w : World) (j : Nat) (wr : World) : Prop where
  le : j ≤ ns.length
  no : ∀ i, i < j → (ns.getD i default).key ≠ k
  b0 : Blk wr w.heap.size 29 #[v, .int .i64 most]
  b1 : Blk wr (w.heap.size + 1) 36 (k.nd c).rbox
  b2 : Blk wr (w.heap.size + 1 + 1) 29 #[.slice none 0 0, .int .i64 0]
  only : Only (fun _ => False) w wr

/-- What stays while the new row is made. -/
structure RAcc (w : World) (v : Value) (most : Int) (n : Nd) (W : World) : Prop where
  b0 : Blk W w.heap.size 29 #[v, .int .i64 most]
  b1 : Blk W (w.heap.size + 1) 36 n.rbox
  b2 : Blk W (w.heap.size + 1 + 1) 29 #[.slice none 0 0, .int .i64 0]
  only : Only (fun _ => False) w W
theorem RAcc.alloc {w W : World} {v : Value} {most : Int} {n : Nd} (h : RAcc w v most n W) (o : Obj) : RAcc w v most n (W.alloc o) := ⟨h.b0.alloc o, h.b1.alloc o, h.b2.alloc o, h.only.alloc o⟩
theorem RAcc.grown {w W W' : World} {v : Value} {most : Int} {n : Nd} {row : Option Nat} (h : RAcc w v most n W) (hg : W.grownBy W' row) (hr : ∀ k, row = some k → w.heap.size + 1 + 1 < k) : RAcc w v most n W' :=
  ⟨h.b0.grown hg (fun e => by have := hr _ e.symm; omega), h.b1.grown hg (fun e => by have := hr _ e.symm; omega), h.b2.grown hg (fun e => by have := hr _ e.symm; omega), h.only.grown hg (fun k e hk => by have := hr _ e; omega)⟩
theorem RAcc.lt {w W : World} {v : Value} {most : Int} {n : Nd} (h : RAcc w v most n W) : w.heap.size + 1 + 1 < W.heap.size := h.b2.lt

set_option maxRecDepth 100000 in
set_option maxHeartbeats 2000000 in
theorem radd_any (ns : List Nd) (v : Value) (most : Int) (k : Key) (c : Nat) (w : World) (hR : RefAt w v ns) (hpos : 0 < ns.length) (hm : (ns.length : Int) < most) (hN : ns.length < 1073741824) :
    Calls Try.prog 66 #[.agg #[v, .int .i64 most], (k.nd c).rval] w (RAddPost ns most k c w) := by
  obtain ⟨ad, cap, hv, _⟩ := own_slice hR
  have HR := Lib.hid hR
  have HV := Lib.hid hv
  rw [hv]
  unfold Nd.rval Key.nd
  clear hR hv
  go_enter Try.func66, Try.ntmps66
  go_wp2
  go_loopw [12] (fun x wr => ∃ j : Nat, x = .int .i64 j ∧ RAddLoop ns v most k c w j wr) (fun x _ => ns.length - (intOf x).toNat)
  case atStart =>
    exact ⟨0, rfl, by omega, fun i hi => by omega, by rw [HV.out]; exact ((Blk.new _ _ _).alloc _).alloc _, (Blk.at (by simp)).alloc _, Blk.at (by simp), (((Only.refl _ _).alloc _).alloc _).alloc _⟩
  case round =>
    obtain ⟨j, rfl, hL⟩ := hrel
    have hle := hL.le
    have hR1 := HR.out.keep0 hL.only
    have a0 : wr.cell? ⟨w.heap.size, 0, none⟩ = some v := hL.b0.cell 0
    have a1 : wr.cell? ⟨w.heap.size, 1, none⟩ = some (.int .i64 most) := hL.b0.cell 1
    have f0 := hL.b0.frozen 0
    have f1 := hL.b0.frozen 1
    have g0 := hL.b2.frozen 0
    have g1 := hL.b2.frozen 1
    have r0 : wr.cell? ⟨w.heap.size + 1 + 1, 0, none⟩ = some (.slice none 0 0) := hL.b2.cell 0
    have r1 : wr.cell? ⟨w.heap.size + 1 + 1, 1, none⟩ = some (.int .i64 0) := hL.b2.cell 1
    have l0 := hL.b2.lt
    have l1 := hL.b1.lt
    have l2 := hL.b0.lt
    rw [HV.out] at a0
    by_cases hj : j < ns.length
    · obtain ⟨g, cap', hv', _, hg, hc⟩ := hR1.node hj
      have h := HV.out.symm.trans hv'
      simp only [Value.slice.injEq] at h
      obtain ⟨rfl, _, rfl⟩ := h
      obtain ⟨n, hn⟩ : ∃ n, n = ns.getD j default := ⟨_, rfl⟩
      rw [← hn] at hc
      have d0 := hc.c0
      have d1 := hc.c1
      have d2 := hc.c2
      have d3 := hc.c3
      have d4 := hc.c4
      have d5 := hc.c5
      have d6 := hc.c6
      have m0 : wr.cell? ⟨w.heap.size + 1, 0, none⟩ = some (.int .i64 k.lv) := hL.b1.cell 0
      have m1 : wr.cell? ⟨w.heap.size + 1, 1, none⟩ = some (.int .u32 k.bits) := hL.b1.cell 1
      have m2 : wr.cell? ⟨w.heap.size + 1, 2, none⟩ = some (.int .i64 k.k0) := hL.b1.cell 2
      have m3 : wr.cell? ⟨w.heap.size + 1, 3, none⟩ = some (.int .i64 k.k1) := hL.b1.cell 3
      have m4 : wr.cell? ⟨w.heap.size + 1, 4, none⟩ = some (.int .i64 k.k2) := hL.b1.cell 4
      have m5 : wr.cell? ⟨w.heap.size + 1, 5, none⟩ = some (.int .i64 k.k3) := hL.b1.cell 5
      have HL := Lib.hid hL
      have Hn := Lib.hid hn
      have HR1 := Lib.hid hR1
      clear hL hn hc hR1 hv'
      have next : n.key ≠ k → RAddLoop ns v most k c w (j + 1) (wr.alloc (.cells n.rbox 36)) := fun hne =>
        ⟨hj, fun i hi => by
          by_cases e : i = j
          · subst e; rw [← Hn.out]; exact hne
          · exact HL.out.no i (by omega), HL.out.b0.alloc _, HL.out.b1.alloc _, HL.out.b2.alloc _, HL.out.only.alloc _⟩
      have NX := Lib.hid next
      clear next
      by_cases e0 : n.lv = k.lv
      · have e0' : ((n.lv : Int) == (k.lv : Int)) = true := by simp; omega
        have E0 := Lib.hid e0
        clear e0
        by_cases e1 : n.bits = k.bits
        · have e1' : ((n.bits : Int) == (k.bits : Int)) = true := by simp; omega
          have E1 := Lib.hid e1
          clear e1
          have he := fun W => run_eq4i 9998 n.k0 n.k1 n.k2 n.k3 k.k0 k.k1 k.k2 k.k3 W
          by_cases e2 : n.k0 = k.k0 ∧ n.k1 = k.k1 ∧ n.k2 = k.k2 ∧ n.k3 = k.k3
          · have e2' : ((n.k0 : Int) == (k.k0 : Int) && ((n.k1 : Int) == (k.k1 : Int) && ((n.k2 : Int) == (k.k2 : Int) && (n.k3 : Int) == (k.k3 : Int)))) = true := by simp; omega
            simp only [e2'] at he
            have hkey : n.key = k := by
              obtain ⟨q0, q1, q2, q3⟩ := e2
              simp only [Nd.key, E0.out, E1.out, q0, q1, q2, q3]
            have Hk := Lib.hid hkey
            clear e2 hkey
            go_wp2_with (first
              | (refine wpList_eql 33 _ _ rfl rfl a4i_guard _ _ true rfl rfl he ?_)
              | fail)
            have hB : Blk ((wr.setCell ⟨w.heap.size + 1 + 1, 0, none⟩ (.slice (some ⟨g, 0, none⟩) ns.length cap)).setCell ⟨w.heap.size + 1 + 1, 1, none⟩ (.int .i64 most)) (w.heap.size + 1 + 1) 29 #[.slice (some ⟨g, 0, none⟩) ns.length cap, .int .i64 most] := (HL.out.b2.set_ 0 _).set_ 1 _
            have hO := (HL.out.only.setCell (p := ⟨w.heap.size + 1 + 1, 0, none⟩) (fun h => by simp only at h; omega) (.slice (some ⟨g, 0, none⟩) ns.length cap)).setCell (p := ⟨w.heap.size + 1 + 1, 1, none⟩) (fun h => by simp only at h; omega) (.int .i64 most)
            generalize World.setCell (World.setCell wr _ _) _ _ = W at hB hO ⊢
            have hB2 := hB.alloc (.cells n.rbox 36)
            have hO2 := hO.alloc (.cells n.rbox 36)
            have z0 := hB2.cell 0
            have z1 := hB2.cell 1
            unfold Nd.rbox at z0 z1 hO2
            generalize World.alloc W _ = V at z0 z1 hO2 ⊢
            exact bodyPost_ret (v := .tuple #[.agg #[.slice (some ⟨g, 0, none⟩) ns.length cap, .int .i64 most], .int .i64 j, .int .i64 0]) (by simp [results, go_sem, z0, z1]) rfl (by
              have hf := idx_first hj (by rw [← Hn.out]; exact Hk.out) HL.out.no
              refine ⟨.slice (some ⟨g, 0, none⟩) ns.length cap, ?_, ?_, hO2⟩
              · unfold findR; rw [hf]
              · unfold findR; rw [hf, ← HV.out]; exact HR.out.keep0 hO2)
          · have e2' : ((n.k0 : Int) == (k.k0 : Int) && ((n.k1 : Int) == (k.k1 : Int) && ((n.k2 : Int) == (k.k2 : Int) && (n.k3 : Int) == (k.k3 : Int)))) = false := by simp; omega
            simp only [e2'] at he
            have E2 := Lib.hid e2
            clear e2
            go_wp2_with (first
              | (refine wpList_eql 33 _ _ rfl rfl a4i_guard _ _ false rfl rfl he ?_)
              | fail)
            go_roundw
            case rel =>
              go_light
              exact ⟨j + 1, by go_num, NX.out (fun h => E2.out ⟨congrArg Key.k0 h, congrArg Key.k1 h, congrArg Key.k2 h, congrArg Key.k3 h⟩)⟩
            case measure => simp [intOf]; omega
        · have e1' : ((n.bits : Int) == (k.bits : Int)) = false := by simp; omega
          go_wp2
          go_roundw
          case rel =>
            go_light
            exact ⟨j + 1, by go_num, NX.out (fun h => e1 (by rw [← h]; rfl))⟩
          case measure => simp [intOf]; omega
      · have e0' : ((n.lv : Int) == (k.lv : Int)) = false := by simp; omega
        go_wp2
        go_roundw
        case rel =>
          go_light
          exact ⟨j + 1, by go_num, NX.out (fun h => e0 (by rw [← h]; rfl))⟩
        case measure => simp [intOf]; omega
    · obtain rfl : j = ns.length := by omega
      have m0 : wr.cell? ⟨w.heap.size + 1, 0, none⟩ = some (.int .i64 k.lv) := hL.b1.cell 0
      have m1 : wr.cell? ⟨w.heap.size + 1, 1, none⟩ = some (.int .u32 k.bits) := hL.b1.cell 1
      have m2 : wr.cell? ⟨w.heap.size + 1, 2, none⟩ = some (.int .i64 k.k0) := hL.b1.cell 2
      have m3 : wr.cell? ⟨w.heap.size + 1, 3, none⟩ = some (.int .i64 k.k1) := hL.b1.cell 3
      have m4 : wr.cell? ⟨w.heap.size + 1, 4, none⟩ = some (.int .i64 k.k2) := hL.b1.cell 4
      have m5 : wr.cell? ⟨w.heap.size + 1, 5, none⟩ = some (.int .i64 k.k3) := hL.b1.cell 5
      have m6 : wr.cell? ⟨w.heap.size + 1, 6, none⟩ = some (.int .u64 c) := hL.b1.cell 6
      have hnone := idx_none hL.no
      have HL := Lib.hid hL
      have HR1 := Lib.hid hR1
      have HNO := Lib.hid hnone
      clear hL hR1 hnone
      have hq : ¬ most ≤ (ns.length : Int) := by omega
      go_wp2_with fail
      have hS : Blk wr.drew w.heap.size 29 #[v, .int .i64 most] ∧ Blk wr.drew (w.heap.size + 1) 36 (k.nd c).rbox := ⟨HL.out.b0, HL.out.b1⟩
      obtain ⟨g, cap', hvv, _⟩ := own_form HR1.out (by omega)
      have h := HV.out.symm.trans hvv
      simp only [Value.slice.injEq] at h
      obtain ⟨rfl, _, rfl⟩ := h
      rw [HV.out] at hS
      clear hvv
      refine wp_region_plan (fun W => Blk W w.heap.size 29 #[.slice (some ⟨g, 0, none⟩) ns.length cap, .int .i64 most] ∧ Blk W (w.heap.size + 1) 36 (k.nd c).rbox)
        (.head 1 (.head 2 (.head 4 (.two 0 (.two 3 (.one 5 (.one 6 .stop)) 5 (.one 3 (.one 6 .stop))) 5 (.one 0 (.one 3 (.one 6 .stop))))))) [7, 8] (by kernel_rfl) (by kernel_rfl) (fun _ _ d _ _ h => by cases d <;> exact h) hS ?_
      iterate 3
        refine stepP_head (v := ?_) rfl rfl ?_ ?_
        rotate_left
        · rintro W' ⟨s0, s1⟩
          have x0 : W'.cell? ⟨w.heap.size, 0, none⟩ = some (.slice (some ⟨g, 0, none⟩) ns.length cap) := s0.cell 0
          have m0 : W'.cell? ⟨w.heap.size + 1, 0, none⟩ = some (.int .i64 k.lv) := s1.cell 0
          have m1 : W'.cell? ⟨w.heap.size + 1, 1, none⟩ = some (.int .u32 k.bits) := s1.cell 1
          have m2 : W'.cell? ⟨w.heap.size + 1, 2, none⟩ = some (.int .i64 k.k0) := s1.cell 2
          have m3 : W'.cell? ⟨w.heap.size + 1, 3, none⟩ = some (.int .i64 k.k1) := s1.cell 3
          have m4 : W'.cell? ⟨w.heap.size + 1, 4, none⟩ = some (.int .i64 k.k2) := s1.cell 4
          have m5 : W'.cell? ⟨w.heap.size + 1, 5, none⟩ = some (.int .i64 k.k3) := s1.cell 5
          have m6 : W'.cell? ⟨w.heap.size + 1, 6, none⟩ = some (.int .u64 c) := s1.cell 6
          clear s0 s1
          go_simp
          try rfl
        try simp only [Act.put, List.setIfInBounds_toArray, List.set_cons_zero, List.set_cons_succ]
      have HD0 : Blk wr.drew w.heap.size 29 #[.slice (some ⟨g, 0, none⟩) ns.length cap, .int .i64 most] := hS.1
      have HD1 : Blk wr.drew (w.heap.size + 1) 36 (k.nd c).rbox := hS.2
      have HRd := HR1.out.keep0 ((Only.refl (fun _ => False) wr).drew)
      rw [HV.out] at HRd
      have HC : RAcc w (.slice (some ⟨g, 0, none⟩) ns.length cap) most (k.nd c) wr.drew := ⟨HD0, HD1, HL.out.b2, HL.out.only.drew⟩
      generalize wr.drew = U at *
      have hlU := HC.lt
      have HC := Lib.hid HC
      have HRd := Lib.hid HRd
      clear HD0 HD1 hS
      refine stepP_two rfl rfl ?_ ?_
      · go_wp2_with fail
        have C1 := HC.out.alloc (.cells #[] 36)
        have C1 := Lib.hid C1
        refine ⟨⟨C1.out.b0, C1.out.b1⟩, stepP_two rfl rfl ?_ ?_⟩
        · go_wp2_with (first | (at_builtin; refine wp_copyall _ rfl _ _ 27 rfl Try.underlying27 (.slice (some ⟨U.heap.size, 0, none⟩) 0 0) rfl (empty_row U) ns hpos hN g cap rfl (HRd.out.keep0 ((Only.refl (fun _ => False) U).alloc _)) ?_; intro g1 cp1 W1 hR1 hg1 hat1 hlt1) | fail)
          have hb1 : w.heap.size + 1 + 1 < g1 := by
            rcases hat1 with h | h
            · have : U.heap.size = g1 := by simpa [Value.ownBlock] using h
              omega
            · simp only [World.size_alloc] at h; omega
          have C2 := C1.out.grown hg1 (fun k h => by
            have : U.heap.size = k := by simpa [Value.ownBlock] using h
            omega)
          have C2 := Lib.hid C2
          clear hg1 hat1
          refine ⟨⟨C2.out.b0, C2.out.b1⟩, stepP_one rfl ?_⟩
          go_wp2_with fail
          have C3 := C2.out.alloc (.cells (k.nd c).rbox 36)
          have C3 := Lib.hid C3
          refine ⟨⟨C3.out.b0, C3.out.b1⟩, stepP_one rfl ?_⟩
          have hR1' := hR1.keep0 ((Only.refl (fun _ => False) W1).alloc (.cells (k.nd c).rbox 36))
          have HR1' := Lib.hid hR1'
          clear hR1 hR1'
          go_wp2_with (first | (at_builtin; refine wp_pushnode _ rfl _ _ 27 rfl Try.underlying27 (.slice (some ⟨g1, 0, none⟩) ns.length cp1) ns rfl HR1'.out hN (k.nd c) W1.heap.size rfl (Blk.new _ _ _) ?_; intro g2 cp2 W2 hR2 hg2 hat2 hlt2) | fail)
          have C4 := C3.out.grown hg2 (fun k h => by
            have : g1 = k := by simpa [Value.ownBlock] using h
            omega)
          refine ⟨⟨C4.b0, C4.b1⟩, stepP_stop ?_⟩
          simp only [pick, List.getElem?_cons_zero, List.getElem?_cons_succ]
          have hb2 : w.heap.size + 1 + 1 < g2 := by
            rcases hat2 with h | h
            · have : g1 = g2 := by simpa [Value.ownBlock] using h
              omega
            · try simp only [World.size_alloc] at h
              have := C2.out.lt
              omega
          have hC4 := Lib.hid C4
          have hRR := Lib.hid hR2
          have y0 : W2.cell? ⟨w.heap.size, 0, none⟩ = some (.slice (some ⟨g, 0, none⟩) ns.length cap) := C4.b0.cell 0
          have y2 : W2.frozen? ⟨w.heap.size, 0, none⟩ = false := C4.b0.frozen 0
          clear hg2 hat2 hR2 C4
          go_wp2_with fail
          have C5 : RAcc w (.slice (some ⟨g2, 0, none⟩) (ns.length + 1) cp2) most (k.nd c) (W2.setCell ⟨w.heap.size, 0, none⟩ (.slice (some ⟨g2, 0, none⟩) (ns.length + 1) cp2)) :=
            ⟨hC4.out.b0.set_ 0 _, hC4.out.b1.far (by simp) _, hC4.out.b2.far (by simp; omega) _, hC4.out.only.setCell (fun h => by simp only at h; omega) _⟩
          have R5 : RefAt (W2.setCell ⟨w.heap.size, 0, none⟩ (.slice (some ⟨g2, 0, none⟩) (ns.length + 1) cp2)) (.slice (some ⟨g2, 0, none⟩) (ns.length + 1) cp2) (ns ++ [k.nd c]) := hRR.out.keep (Only.set1 _ _ _ _) (fun k hk e => by
            have : g2 = k := by simpa [Value.ownBlock] using hk
            omega)
          clear y0 y2
          generalize World.setCell W2 _ _ = X at C5 R5 ⊢
          have hw : IntKind.i64.wrap ((ns.length : Int) + 1 - 1) = (ns.length : Int) := by rw [Int.add_sub_cancel]; exact IntWalk.i64_in _ (by omega)
          have hw2 : IntKind.i64.wrap (ns.length : Int) = (ns.length : Int) := IntWalk.i64_in _ (by omega)
          have C5 := Lib.hid C5
          have R5 := Lib.hid R5
          refine wp_region_plan (fun V => Blk V w.heap.size 29 #[.slice (some ⟨g2, 0, none⟩) (ns.length + 1) cp2, .int .i64 most]) (.head 0 (.head 1 (.head 2 (.head 3 (.head 4 (.one 5 (.one 6 (.one 7 .stop)))))))) [] (by kernel_rfl) (by kernel_rfl) (fun _ _ d _ _ h => by cases d <;> exact h) C5.out.b0 ?_
          iterate 5
            refine stepP_head (v := ?_) rfl rfl ?_ ?_
            rotate_left
            · rintro W' s0
              have x0 : W'.cell? ⟨w.heap.size, 0, none⟩ = some (.slice (some ⟨g2, 0, none⟩) (ns.length + 1) cp2) := s0.cell 0
              have x1 : W'.cell? ⟨w.heap.size, 1, none⟩ = some (.int .i64 most) := s0.cell 1
              clear s0
              go_simp
              try simp only [hw]
              try rfl
            try simp only [Act.put, List.setIfInBounds_toArray, List.set_cons_zero, List.set_cons_succ]
          refine stepP_one rfl ?_
          have y3 : X.drew.cell? ⟨w.heap.size + 1 + 1, 0, none⟩ = some (.slice none 0 0) := C5.out.b2.cell 0
          have y4 : X.drew.cell? ⟨w.heap.size + 1 + 1, 1, none⟩ = some (.int .i64 0) := C5.out.b2.cell 1
          have y5 : X.drew.frozen? ⟨w.heap.size + 1 + 1, 0, none⟩ = false := C5.out.b2.frozen 0
          have y6 : X.drew.frozen? ⟨w.heap.size + 1 + 1, 1, none⟩ = false := C5.out.b2.frozen 1
          have C6 : RAcc w (.slice (some ⟨g2, 0, none⟩) (ns.length + 1) cp2) most (k.nd c) X.drew := ⟨C5.out.b0, C5.out.b1, C5.out.b2, C5.out.only.drew⟩
          have R6 : RefAt X.drew (.slice (some ⟨g2, 0, none⟩) (ns.length + 1) cp2) (ns ++ [k.nd c]) := R5.out.keep0 (Only.refl _ _).drew
          generalize X.drew = Y at y3 y4 y5 y6 C6 R6 ⊢
          have C6 := Lib.hid C6
          have R6 := Lib.hid R6
          go_wp2_with fail
          have B7 : Blk ((Y.setCell ⟨w.heap.size + 1 + 1, 0, none⟩ (.slice (some ⟨g2, 0, none⟩) (ns.length + 1) cp2)).setCell ⟨w.heap.size + 1 + 1, 1, none⟩ (.int .i64 most)) (w.heap.size + 1 + 1) 29 #[.slice (some ⟨g2, 0, none⟩) (ns.length + 1) cp2, .int .i64 most] := (C6.out.b2.set_ 0 _).set_ 1 _
          have B8 : Blk ((Y.setCell ⟨w.heap.size + 1 + 1, 0, none⟩ (.slice (some ⟨g2, 0, none⟩) (ns.length + 1) cp2)).setCell ⟨w.heap.size + 1 + 1, 1, none⟩ (.int .i64 most)) w.heap.size 29 #[.slice (some ⟨g2, 0, none⟩) (ns.length + 1) cp2, .int .i64 most] := (C6.out.b0.far (by simp; omega) _).far (by simp; omega) _
          have O7 : Only (fun _ => False) w ((Y.setCell ⟨w.heap.size + 1 + 1, 0, none⟩ (.slice (some ⟨g2, 0, none⟩) (ns.length + 1) cp2)).setCell ⟨w.heap.size + 1 + 1, 1, none⟩ (.int .i64 most)) := (C6.out.only.setCell (fun h => by simp only at h; omega) _).setCell (fun h => by simp only at h; omega) _
          have R7 : RefAt ((Y.setCell ⟨w.heap.size + 1 + 1, 0, none⟩ (.slice (some ⟨g2, 0, none⟩) (ns.length + 1) cp2)).setCell ⟨w.heap.size + 1 + 1, 1, none⟩ (.int .i64 most)) (.slice (some ⟨g2, 0, none⟩) (ns.length + 1) cp2) (ns ++ [k.nd c]) :=
            (R6.out.keep (Only.set1 _ _ _ _) (fun k hk e => by
              have : g2 = k := by simpa [Value.ownBlock] using hk
              omega)).keep (Only.set1 _ _ _ _) (fun k hk e => by
              have : g2 = k := by simpa [Value.ownBlock] using hk
              omega)
          generalize World.setCell (World.setCell Y _ _) _ _ = Z at B7 B8 O7 R7 ⊢
          refine ⟨B8, stepP_one rfl ?_⟩
          go_wp2_with fail
          refine ⟨B8, stepP_one rfl ?_⟩
          go_wp2_with fail
          refine ⟨B8, stepP_stop ?_⟩
          simp only [pick]
          have z0 := B7.cell 0
          have z1 := B7.cell 1
          clear B7 B8
          go_wp2
          exact bodyPost_ret (v := .tuple #[.agg #[.slice (some ⟨g2, 0, none⟩) (ns.length + 1) cp2, .int .i64 most], .int .i64 ns.length, .int .i64 0]) (by simp [results, go_sem, z0, z1]) rfl (by
            refine ⟨.slice (some ⟨g2, 0, none⟩) (ns.length + 1) cp2, ?_, ?_, O7⟩
            · unfold findR; rw [HNO.out]; simp only; rw [if_neg (by omega)]
            · unfold findR; rw [HNO.out]; simp only; rw [if_neg (by omega)]; exact R7)
        · go_wp2_with fail
          have C3 := C1.out.alloc (.cells (k.nd c).rbox 36)
          have C3 := Lib.hid C3
          have hBn : Blk ((U.alloc (.cells #[] 36)).alloc (.cells (k.nd c).rbox 36)) (U.heap.size + 1) 36 (k.nd c).rbox := Blk.at (by simp)
          refine ⟨⟨C3.out.b0, C3.out.b1⟩, stepP_one rfl ?_⟩
          go_wp2_with (first | (at_builtin; refine wp_copyall _ rfl _ _ 27 rfl Try.underlying27 (.slice (some ⟨U.heap.size, 0, none⟩) 0 0) rfl ((empty_row U).alloc _) ns hpos hN g cap rfl (HRd.out.keep0 (((Only.refl (fun _ => False) U).alloc _).alloc _)) ?_; intro g1 cp1 W1 hR1 hg1 hat1 hlt1) | fail)
          have hb1 : w.heap.size + 1 + 1 < g1 := by
            rcases hat1 with h | h
            · have : U.heap.size = g1 := by simpa [Value.ownBlock] using h
              omega
            · simp only [World.size_alloc] at h; omega
          have C2 := C3.out.grown hg1 (fun k h => by
            have : U.heap.size = k := by simpa [Value.ownBlock] using h
            omega)
          have C2 := Lib.hid C2
          have hBn1 := hBn.grown hg1 (fun h => by simp [Value.ownBlock] at h)
          clear hg1 hat1 hBn
          refine ⟨⟨C2.out.b0, C2.out.b1⟩, stepP_one rfl ?_⟩
          have hR1' := hR1
          have HR1' := Lib.hid hR1'
          clear hR1 hR1'
          go_wp2_with (first | (at_builtin; refine wp_pushnode _ rfl _ _ 27 rfl Try.underlying27 (.slice (some ⟨g1, 0, none⟩) ns.length cp1) ns rfl HR1'.out hN (k.nd c) (U.heap.size + 1) rfl hBn1 ?_; intro g2 cp2 W2 hR2 hg2 hat2 hlt2) | fail)
          have C4 := C2.out.grown hg2 (fun k h => by
            have : g1 = k := by simpa [Value.ownBlock] using h
            omega)
          refine ⟨⟨C4.b0, C4.b1⟩, stepP_stop ?_⟩
          simp only [pick, List.getElem?_cons_zero, List.getElem?_cons_succ]
          have hb2 : w.heap.size + 1 + 1 < g2 := by
            rcases hat2 with h | h
            · have : g1 = g2 := by simpa [Value.ownBlock] using h
              omega
            · try simp only [World.size_alloc] at h
              have := C2.out.lt
              omega
          have hC4 := Lib.hid C4
          have hRR := Lib.hid hR2
          have y0 : W2.cell? ⟨w.heap.size, 0, none⟩ = some (.slice (some ⟨g, 0, none⟩) ns.length cap) := C4.b0.cell 0
          have y2 : W2.frozen? ⟨w.heap.size, 0, none⟩ = false := C4.b0.frozen 0
          clear hg2 hat2 hR2 C4
          go_wp2_with fail
          have C5 : RAcc w (.slice (some ⟨g2, 0, none⟩) (ns.length + 1) cp2) most (k.nd c) (W2.setCell ⟨w.heap.size, 0, none⟩ (.slice (some ⟨g2, 0, none⟩) (ns.length + 1) cp2)) :=
            ⟨hC4.out.b0.set_ 0 _, hC4.out.b1.far (by simp) _, hC4.out.b2.far (by simp; omega) _, hC4.out.only.setCell (fun h => by simp only at h; omega) _⟩
          have R5 : RefAt (W2.setCell ⟨w.heap.size, 0, none⟩ (.slice (some ⟨g2, 0, none⟩) (ns.length + 1) cp2)) (.slice (some ⟨g2, 0, none⟩) (ns.length + 1) cp2) (ns ++ [k.nd c]) := hRR.out.keep (Only.set1 _ _ _ _) (fun k hk e => by
            have : g2 = k := by simpa [Value.ownBlock] using hk
            omega)
          clear y0 y2
          generalize World.setCell W2 _ _ = X at C5 R5 ⊢
          have hw : IntKind.i64.wrap ((ns.length : Int) + 1 - 1) = (ns.length : Int) := by rw [Int.add_sub_cancel]; exact IntWalk.i64_in _ (by omega)
          have hw2 : IntKind.i64.wrap (ns.length : Int) = (ns.length : Int) := IntWalk.i64_in _ (by omega)
          have C5 := Lib.hid C5
          have R5 := Lib.hid R5
          refine wp_region_plan (fun V => Blk V w.heap.size 29 #[.slice (some ⟨g2, 0, none⟩) (ns.length + 1) cp2, .int .i64 most]) (.head 0 (.head 1 (.head 2 (.head 3 (.head 4 (.one 5 (.one 6 (.one 7 .stop)))))))) [] (by kernel_rfl) (by kernel_rfl) (fun _ _ d _ _ h => by cases d <;> exact h) C5.out.b0 ?_
          iterate 5
            refine stepP_head (v := ?_) rfl rfl ?_ ?_
            rotate_left
            · rintro W' s0
              have x0 : W'.cell? ⟨w.heap.size, 0, none⟩ = some (.slice (some ⟨g2, 0, none⟩) (ns.length + 1) cp2) := s0.cell 0
              have x1 : W'.cell? ⟨w.heap.size, 1, none⟩ = some (.int .i64 most) := s0.cell 1
              clear s0
              go_simp
              try simp only [hw]
              try rfl
            try simp only [Act.put, List.setIfInBounds_toArray, List.set_cons_zero, List.set_cons_succ]
          refine stepP_one rfl ?_
          have y3 : X.drew.cell? ⟨w.heap.size + 1 + 1, 0, none⟩ = some (.slice none 0 0) := C5.out.b2.cell 0
          have y4 : X.drew.cell? ⟨w.heap.size + 1 + 1, 1, none⟩ = some (.int .i64 0) := C5.out.b2.cell 1
          have y5 : X.drew.frozen? ⟨w.heap.size + 1 + 1, 0, none⟩ = false := C5.out.b2.frozen 0
          have y6 : X.drew.frozen? ⟨w.heap.size + 1 + 1, 1, none⟩ = false := C5.out.b2.frozen 1
          have C6 : RAcc w (.slice (some ⟨g2, 0, none⟩) (ns.length + 1) cp2) most (k.nd c) X.drew := ⟨C5.out.b0, C5.out.b1, C5.out.b2, C5.out.only.drew⟩
          have R6 : RefAt X.drew (.slice (some ⟨g2, 0, none⟩) (ns.length + 1) cp2) (ns ++ [k.nd c]) := R5.out.keep0 (Only.refl _ _).drew
          generalize X.drew = Y at y3 y4 y5 y6 C6 R6 ⊢
          have C6 := Lib.hid C6
          have R6 := Lib.hid R6
          go_wp2_with fail
          have B7 : Blk ((Y.setCell ⟨w.heap.size + 1 + 1, 0, none⟩ (.slice (some ⟨g2, 0, none⟩) (ns.length + 1) cp2)).setCell ⟨w.heap.size + 1 + 1, 1, none⟩ (.int .i64 most)) (w.heap.size + 1 + 1) 29 #[.slice (some ⟨g2, 0, none⟩) (ns.length + 1) cp2, .int .i64 most] := (C6.out.b2.set_ 0 _).set_ 1 _
          have B8 : Blk ((Y.setCell ⟨w.heap.size + 1 + 1, 0, none⟩ (.slice (some ⟨g2, 0, none⟩) (ns.length + 1) cp2)).setCell ⟨w.heap.size + 1 + 1, 1, none⟩ (.int .i64 most)) w.heap.size 29 #[.slice (some ⟨g2, 0, none⟩) (ns.length + 1) cp2, .int .i64 most] := (C6.out.b0.far (by simp; omega) _).far (by simp; omega) _
          have O7 : Only (fun _ => False) w ((Y.setCell ⟨w.heap.size + 1 + 1, 0, none⟩ (.slice (some ⟨g2, 0, none⟩) (ns.length + 1) cp2)).setCell ⟨w.heap.size + 1 + 1, 1, none⟩ (.int .i64 most)) := (C6.out.only.setCell (fun h => by simp only at h; omega) _).setCell (fun h => by simp only at h; omega) _
          have R7 : RefAt ((Y.setCell ⟨w.heap.size + 1 + 1, 0, none⟩ (.slice (some ⟨g2, 0, none⟩) (ns.length + 1) cp2)).setCell ⟨w.heap.size + 1 + 1, 1, none⟩ (.int .i64 most)) (.slice (some ⟨g2, 0, none⟩) (ns.length + 1) cp2) (ns ++ [k.nd c]) :=
            (R6.out.keep (Only.set1 _ _ _ _) (fun k hk e => by
              have : g2 = k := by simpa [Value.ownBlock] using hk
              omega)).keep (Only.set1 _ _ _ _) (fun k hk e => by
              have : g2 = k := by simpa [Value.ownBlock] using hk
              omega)
          generalize World.setCell (World.setCell Y _ _) _ _ = Z at B7 B8 O7 R7 ⊢
          refine ⟨B8, stepP_one rfl ?_⟩
          go_wp2_with fail
          refine ⟨B8, stepP_one rfl ?_⟩
          go_wp2_with fail
          refine ⟨B8, stepP_stop ?_⟩
          simp only [pick]
          have z0 := B7.cell 0
          have z1 := B7.cell 1
          clear B7 B8
          go_wp2
          exact bodyPost_ret (v := .tuple #[.agg #[.slice (some ⟨g2, 0, none⟩) (ns.length + 1) cp2, .int .i64 most], .int .i64 ns.length, .int .i64 0]) (by simp [results, go_sem, z0, z1]) rfl (by
            refine ⟨.slice (some ⟨g2, 0, none⟩) (ns.length + 1) cp2, ?_, ?_, O7⟩
            · unfold findR; rw [HNO.out]; simp only; rw [if_neg (by omega)]
            · unfold findR; rw [HNO.out]; simp only; rw [if_neg (by omega)]; exact R7)
      · go_wp2_with fail
        have C1 := HC.out.alloc (.cells (k.nd c).rbox 36)
        have C1 := Lib.hid C1
        refine ⟨⟨C1.out.b0, C1.out.b1⟩, stepP_one rfl ?_⟩
        · go_wp2_with fail
          have C3 := C1.out.alloc (.cells #[] 36)
          have C3 := Lib.hid C3
          have hBn : Blk ((U.alloc (.cells (k.nd c).rbox 36)).alloc (.cells #[] 36)) U.heap.size 36 (k.nd c).rbox := (Blk.new _ _ _).alloc _
          have hE := empty_row (U.alloc (.cells (k.nd c).rbox 36))
          rw [World.size_alloc] at hE
          refine ⟨⟨C3.out.b0, C3.out.b1⟩, stepP_one rfl ?_⟩
          go_wp2_with (first | (at_builtin; refine wp_copyall _ rfl _ _ 27 rfl Try.underlying27 (.slice (some ⟨U.heap.size + 1, 0, none⟩) 0 0) rfl hE ns hpos hN g cap rfl (HRd.out.keep0 (((Only.refl (fun _ => False) U).alloc _).alloc _)) ?_; intro g1 cp1 W1 hR1 hg1 hat1 hlt1) | fail)
          have hb1 : w.heap.size + 1 + 1 < g1 := by
            rcases hat1 with h | h
            · have : U.heap.size + 1 = g1 := by simpa [Value.ownBlock] using h
              omega
            · simp only [World.size_alloc] at h; omega
          have C2 := C3.out.grown hg1 (fun k h => by
            have : U.heap.size + 1 = k := by simpa [Value.ownBlock] using h
            omega)
          have C2 := Lib.hid C2
          have hBn1 := hBn.grown hg1 (fun h => by simp [Value.ownBlock] at h)
          clear hg1 hat1 hBn hE
          refine ⟨⟨C2.out.b0, C2.out.b1⟩, stepP_one rfl ?_⟩
          have hR1' := hR1
          have HR1' := Lib.hid hR1'
          clear hR1 hR1'
          go_wp2_with (first | (at_builtin; refine wp_pushnode _ rfl _ _ 27 rfl Try.underlying27 (.slice (some ⟨g1, 0, none⟩) ns.length cp1) ns rfl HR1'.out hN (k.nd c) U.heap.size rfl hBn1 ?_; intro g2 cp2 W2 hR2 hg2 hat2 hlt2) | fail)
          have C4 := C2.out.grown hg2 (fun k h => by
            have : g1 = k := by simpa [Value.ownBlock] using h
            omega)
          refine ⟨⟨C4.b0, C4.b1⟩, stepP_stop ?_⟩
          simp only [pick, List.getElem?_cons_zero, List.getElem?_cons_succ]
          have hb2 : w.heap.size + 1 + 1 < g2 := by
            rcases hat2 with h | h
            · have : g1 = g2 := by simpa [Value.ownBlock] using h
              omega
            · try simp only [World.size_alloc] at h
              have := C2.out.lt
              omega
          have hC4 := Lib.hid C4
          have hRR := Lib.hid hR2
          have y0 : W2.cell? ⟨w.heap.size, 0, none⟩ = some (.slice (some ⟨g, 0, none⟩) ns.length cap) := C4.b0.cell 0
          have y2 : W2.frozen? ⟨w.heap.size, 0, none⟩ = false := C4.b0.frozen 0
          clear hg2 hat2 hR2 C4
          go_wp2_with fail
          have C5 : RAcc w (.slice (some ⟨g2, 0, none⟩) (ns.length + 1) cp2) most (k.nd c) (W2.setCell ⟨w.heap.size, 0, none⟩ (.slice (some ⟨g2, 0, none⟩) (ns.length + 1) cp2)) :=
            ⟨hC4.out.b0.set_ 0 _, hC4.out.b1.far (by simp) _, hC4.out.b2.far (by simp; omega) _, hC4.out.only.setCell (fun h => by simp only at h; omega) _⟩
          have R5 : RefAt (W2.setCell ⟨w.heap.size, 0, none⟩ (.slice (some ⟨g2, 0, none⟩) (ns.length + 1) cp2)) (.slice (some ⟨g2, 0, none⟩) (ns.length + 1) cp2) (ns ++ [k.nd c]) := hRR.out.keep (Only.set1 _ _ _ _) (fun k hk e => by
            have : g2 = k := by simpa [Value.ownBlock] using hk
            omega)
          clear y0 y2
          generalize World.setCell W2 _ _ = X at C5 R5 ⊢
          have hw : IntKind.i64.wrap ((ns.length : Int) + 1 - 1) = (ns.length : Int) := by rw [Int.add_sub_cancel]; exact IntWalk.i64_in _ (by omega)
          have hw2 : IntKind.i64.wrap (ns.length : Int) = (ns.length : Int) := IntWalk.i64_in _ (by omega)
          have C5 := Lib.hid C5
          have R5 := Lib.hid R5
          refine wp_region_plan (fun V => Blk V w.heap.size 29 #[.slice (some ⟨g2, 0, none⟩) (ns.length + 1) cp2, .int .i64 most]) (.head 0 (.head 1 (.head 2 (.head 3 (.head 4 (.one 5 (.one 6 (.one 7 .stop)))))))) [] (by kernel_rfl) (by kernel_rfl) (fun _ _ d _ _ h => by cases d <;> exact h) C5.out.b0 ?_
          iterate 5
            refine stepP_head (v := ?_) rfl rfl ?_ ?_
            rotate_left
            · rintro W' s0
              have x0 : W'.cell? ⟨w.heap.size, 0, none⟩ = some (.slice (some ⟨g2, 0, none⟩) (ns.length + 1) cp2) := s0.cell 0
              have x1 : W'.cell? ⟨w.heap.size, 1, none⟩ = some (.int .i64 most) := s0.cell 1
              clear s0
              go_simp
              try simp only [hw]
              try rfl
            try simp only [Act.put, List.setIfInBounds_toArray, List.set_cons_zero, List.set_cons_succ]
          refine stepP_one rfl ?_
          have y3 : X.drew.cell? ⟨w.heap.size + 1 + 1, 0, none⟩ = some (.slice none 0 0) := C5.out.b2.cell 0
          have y4 : X.drew.cell? ⟨w.heap.size + 1 + 1, 1, none⟩ = some (.int .i64 0) := C5.out.b2.cell 1
          have y5 : X.drew.frozen? ⟨w.heap.size + 1 + 1, 0, none⟩ = false := C5.out.b2.frozen 0
          have y6 : X.drew.frozen? ⟨w.heap.size + 1 + 1, 1, none⟩ = false := C5.out.b2.frozen 1
          have C6 : RAcc w (.slice (some ⟨g2, 0, none⟩) (ns.length + 1) cp2) most (k.nd c) X.drew := ⟨C5.out.b0, C5.out.b1, C5.out.b2, C5.out.only.drew⟩
          have R6 : RefAt X.drew (.slice (some ⟨g2, 0, none⟩) (ns.length + 1) cp2) (ns ++ [k.nd c]) := R5.out.keep0 (Only.refl _ _).drew
          generalize X.drew = Y at y3 y4 y5 y6 C6 R6 ⊢
          have C6 := Lib.hid C6
          have R6 := Lib.hid R6
          go_wp2_with fail
          have B7 : Blk ((Y.setCell ⟨w.heap.size + 1 + 1, 0, none⟩ (.slice (some ⟨g2, 0, none⟩) (ns.length + 1) cp2)).setCell ⟨w.heap.size + 1 + 1, 1, none⟩ (.int .i64 most)) (w.heap.size + 1 + 1) 29 #[.slice (some ⟨g2, 0, none⟩) (ns.length + 1) cp2, .int .i64 most] := (C6.out.b2.set_ 0 _).set_ 1 _
          have B8 : Blk ((Y.setCell ⟨w.heap.size + 1 + 1, 0, none⟩ (.slice (some ⟨g2, 0, none⟩) (ns.length + 1) cp2)).setCell ⟨w.heap.size + 1 + 1, 1, none⟩ (.int .i64 most)) w.heap.size 29 #[.slice (some ⟨g2, 0, none⟩) (ns.length + 1) cp2, .int .i64 most] := (C6.out.b0.far (by simp; omega) _).far (by simp; omega) _
          have O7 : Only (fun _ => False) w ((Y.setCell ⟨w.heap.size + 1 + 1, 0, none⟩ (.slice (some ⟨g2, 0, none⟩) (ns.length + 1) cp2)).setCell ⟨w.heap.size + 1 + 1, 1, none⟩ (.int .i64 most)) := (C6.out.only.setCell (fun h => by simp only at h; omega) _).setCell (fun h => by simp only at h; omega) _
          have R7 : RefAt ((Y.setCell ⟨w.heap.size + 1 + 1, 0, none⟩ (.slice (some ⟨g2, 0, none⟩) (ns.length + 1) cp2)).setCell ⟨w.heap.size + 1 + 1, 1, none⟩ (.int .i64 most)) (.slice (some ⟨g2, 0, none⟩) (ns.length + 1) cp2) (ns ++ [k.nd c]) :=
            (R6.out.keep (Only.set1 _ _ _ _) (fun k hk e => by
              have : g2 = k := by simpa [Value.ownBlock] using hk
              omega)).keep (Only.set1 _ _ _ _) (fun k hk e => by
              have : g2 = k := by simpa [Value.ownBlock] using hk
              omega)
          generalize World.setCell (World.setCell Y _ _) _ _ = Z at B7 B8 O7 R7 ⊢
          refine ⟨B8, stepP_one rfl ?_⟩
          go_wp2_with fail
          refine ⟨B8, stepP_one rfl ?_⟩
          go_wp2_with fail
          refine ⟨B8, stepP_stop ?_⟩
          simp only [pick]
          have z0 := B7.cell 0
          have z1 := B7.cell 1
          clear B7 B8
          go_wp2
          exact bodyPost_ret (v := .tuple #[.agg #[.slice (some ⟨g2, 0, none⟩) (ns.length + 1) cp2, .int .i64 most], .int .i64 ns.length, .int .i64 0]) (by simp [results, go_sem, z0, z1]) rfl (by
            refine ⟨.slice (some ⟨g2, 0, none⟩) (ns.length + 1) cp2, ?_, ?_, O7⟩
            · unfold findR; rw [HNO.out]; simp only; rw [if_neg (by omega)]
            · unfold findR; rw [HNO.out]; simp only; rw [if_neg (by omega)]; exact R7)
end Go.Proofs.Ytblhbfniomlfkaa
