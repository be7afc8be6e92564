/- find, the plain part: what it answers, in lists; the arena's invariant; the memory behind a new node. -/
import Derived.Test.YtblhbfniomlfkaaGrow
import Derived.Deep.AppendLies
namespace Go.Proofs.Ytblhbfniomlfkaa
open Go.RowKit

/-- Where a key is. -/
def idx (ns : List Nd) (k : Key) : Option Nat := ns.findIdx? (fun n => decide (n.key = k))

/-- find: the node's number, the code, the nodes behind the call. -/
def findR (ns : List Nd) (most : Int) (k : Key) (c : Nat) : Nat × Nat × List Nd :=
  match idx ns k with
  | some i => (i, 0, ns)
  | none => if most ≤ ns.length then (0, 8, ns) else (ns.length, 0, ns ++ [k.nd c])

/-- An error of the program's own code; 0: nil. -/
def errV (c : Nat) : Value := if c = 0 then .nilIface else .iface 96 (.int .i64 c)

/-- What holds of an arena. -/
structure Ars.Inv (A : Ars) : Prop where
  ht : Ht hash A.ss A.ns A.ns.length
  load : 2 * A.ns.length ≤ A.ss.length
  size : A.ss.length ≤ 4 * A.ns.length + 128
  big : 128 ≤ A.ss.length
  dis : ∀ i j, i < j → j < A.ns.length → (A.ns.getD i default).key ≠ (A.ns.getD j default).key
  fit : ∀ i, i < A.ns.length → (A.ns.getD i default).Fit
  cnt : ∀ i, i < A.ns.length → (A.ns.getD i default).cnt ≤ 4611686018427387904

/-- What a call has made of an arena. -/
structure Ars.Step (A : Ars) (w : World) (ns' : List Nd) (A' : Ars) (w' : World) : Prop where
  at_ : A'.At w'
  inv : A'.Inv
  ns : A'.ns = ns'
  p : A'.p = A.p
  es : A'.es = A.es
  ve : A'.ve = A.ve
  most : A'.most = A.most
  only : Only A.foot w w'
  foot : ∀ k, A'.foot k → A.foot k ∨ w.heap.size ≤ k

theorem Ars.Step.same {A : Ars} {w w' : World} (h : A.At w) (hi : A.Inv) (ho : Only (fun _ => False) w w') : A.Step w A.ns A w' :=
  ⟨h.keep ho (fun _ _ h => h), hi, rfl, rfl, rfl, rfl, rfl, ho.mono (fun _ _ h => h.elim), fun _ h => .inl h⟩

theorem Ars.Step.trans {A B C : Ars} {w w1 w2 : World} {l m : List Nd} (h : A.Step w l B w1) (k : B.Step w1 m C w2) : A.Step w m C w2 :=
  ⟨k.at_, k.inv, k.ns, k.p.trans h.p, k.es.trans h.es, k.ve.trans h.ve, k.most.trans h.most,
    h.only.trans k.only (fun i hi hf => (h.foot i hf).resolve_right (by omega)),
    fun i hi => by
      rcases k.foot i hi with h1 | h1
      · exact h.foot i h1
      · exact .inr (Nat.le_trans h.only.size h1)⟩

theorem idx_some {ns : List Nd} {k : Key} {i : Nat} (hi : i < ns.length) (hk : (ns.getD i default).key = k) (hdis : ∀ i j, i < j → j < ns.length → (ns.getD i default).key ≠ (ns.getD j default).key) : idx ns k = some i := by
  unfold idx
  rw [List.findIdx?_eq_some_iff_getElem]
  have hg : ns.getD i default = ns[i] := by simp [hi]
  refine ⟨hi, by rw [hg] at hk; simpa using hk, fun j hj => ?_⟩
  have hd := hdis j i hj hi
  have hgj : ns.getD j default = ns[j] := by simp [Nat.lt_trans hj hi]
  rw [hk, hgj] at hd
  simpa using hd

theorem idx_none {ns : List Nd} {k : Key} (h : ∀ i, i < ns.length → (ns.getD i default).key ≠ k) : idx ns k = none := by
  unfold idx
  rw [List.findIdx?_eq_none_iff]
  intro x hx
  obtain ⟨i, hi, rfl⟩ := List.getElem_of_mem hx
  have := h i hi
  have hg : ns.getD i default = ns[i] := by simp [hi]
  rw [hg] at this
  simpa using this

theorem idx_spec {ns : List Nd} {k : Key} {i : Nat} (h : idx ns k = some i) : i < ns.length ∧ (ns.getD i default).key = k := by
  unfold idx at h
  rw [List.findIdx?_eq_some_iff_getElem] at h
  obtain ⟨hi, hk, _⟩ := h
  refine ⟨hi, ?_⟩
  have hg : ns.getD i default = ns[i] := by simp [hi]
  rw [hg]
  simpa using hk

theorem idx_fresh {ns : List Nd} {k : Key} (h : idx ns k = none) : ∀ i, i < ns.length → (ns.getD i default).key ≠ k := by
  intro i hi
  unfold idx at h
  rw [List.findIdx?_eq_none_iff] at h
  have := h (ns.getD i default) (by simp [hi])
  simpa using this

theorem key_box {W : World} {b : Nat} {k : Key} (h : Blk W b 124 k.cells) : W.cell? ⟨b, 0, none⟩ = some (.int .i64 k.lv) ∧ W.cell? ⟨b, 1, none⟩ = some (.int .u32 k.bits) ∧ W.cell? ⟨b, 2, none⟩ = some (.int .u32 k.k0) ∧
    W.cell? ⟨b, 3, none⟩ = some (.int .u32 k.k1) ∧ W.cell? ⟨b, 4, none⟩ = some (.int .u32 k.k2) ∧ W.cell? ⟨b, 5, none⟩ = some (.int .u32 k.k3) :=
  ⟨h.cell 0, h.cell 1, h.cell 2, h.cell 3, h.cell 4, h.cell 5⟩

theorem node_info : (Try.prog.info? 129).map (fun i => (i.zero, i.size, i.bytes)) = some (some (.agg #[.int .i64 0, .int .u32 0, .int .u32 0, .int .u32 0, .int .u32 0, .int .u32 0, .int .u64 0]), 7, 40) := by kernel_rfl

/-- The arena behind the append of a node and the store of the slice. -/
def Ars.noded (A : Ars) (v : Value) (ns : List Nd) : Ars := { A with vn := v, ns := ns }

theorem Ars.At.push {A : Ars} {w w1 : World} {g cap : Nat} {n : Nd} (h : A.At w) (hown : w1.ownsRow 0 129 7 (.slice (some ⟨g, 0, none⟩) (A.ns.length + 1) cap) (A.ns.length + 1) (ndCells A.ns ++ n.cells))
    (hg : w.grownBy w1 A.vn.ownBlock) :
    (A.noded (.slice (some ⟨g, 0, none⟩) (A.ns.length + 1) cap) (A.ns ++ [n])).At (w1.setCell ⟨A.p, 0, none⟩ (.slice (some ⟨g, 0, none⟩) (A.ns.length + 1) cap)) := by
  have hs := Only.set1 w1 A.p 0 (.slice (some ⟨g, 0, none⟩) (A.ns.length + 1) cap)
  have ho : Only (fun k => A.vn.ownBlock = some k) w w1 := (Only.refl _ w).grown hg (fun k e _ => e)
  have hb1 : Blk w1 A.p 102 #[A.vn, A.vs, A.ve, .int .i64 A.most] := h.blk.only ho (own_blk_ne h.own h.blk (by decide))
  have hs1 := own_only h.ows ho (fun k hk hk' => own_own_ne h.own h.ows (by decide) k hk' hk)
  have he1 := own_only h.owe ho (fun k hk hk' => own_own_ne h.own h.owe (by decide) k hk' hk)
  have hl : (A.ns ++ [n]).length = A.ns.length + 1 := by simp
  refine ⟨?_, ?_, ?_, ?_, h.apart⟩
  · have := hb1.set_ 0 (.slice (some ⟨g, 0, none⟩) (A.ns.length + 1) cap)
    simpa [Ars.noded] using this
  · have e : ndCells (A.ns ++ [n]) = ndCells A.ns ++ n.cells := by rw [ndCells_append]; simp [ndCells]
    simp only [Ars.noded, hl, e]
    exact own_only hown hs (fun k hk hkp => own_blk_ne hown hb1 (by decide) (hk.trans (congrArg some hkp)))
  · exact own_only hs1 hs (fun k hk hkp => own_blk_ne hs1 hb1 (by decide) (hk.trans (congrArg some hkp)))
  · exact own_only he1 hs (fun k hk hkp => own_blk_ne he1 hb1 (by decide) (hk.trans (congrArg some hkp)))

/-- Behind the append the arena's own cells are as they were. -/
theorem Ars.At.appended {A : Ars} {w w1 : World} (h : A.At w) (hg : w.grownBy w1 A.vn.ownBlock) : w1.cell? ⟨A.p, 0, none⟩ = some A.vn ∧ w1.frozen? ⟨A.p, 0, none⟩ = false ∧ w1.cell? ⟨A.p, 1, none⟩ = some A.vs := by
  have ho : Only (fun k => A.vn.ownBlock = some k) w w1 := (Only.refl _ w).grown hg (fun k e _ => e)
  have hb1 : Blk w1 A.p 102 #[A.vn, A.vs, A.ve, .int .i64 A.most] := h.blk.only ho (own_blk_ne h.own h.blk (by decide))
  exact ⟨by rw [hb1.cell]; rfl, hb1.frozen 0, by rw [hb1.cell]; rfl⟩

/-- A fresh node's table. -/
theorem Ars.Inv.put {A : Ars} {k : Key} {x d c : Nat} (hi : A.Inv) (hr : SlotRes A k x d) (h0 : A.ss.getD x 0 = 0) (hkf : (k.nd c).Fit) :
    Ht hash (A.ss.set x (A.ns.length + 1)) (A.ns ++ [k.nd c]) (A.ns.length + 1) ∧ (∀ i j, i < j → j < (A.ns ++ [k.nd c]).length → ((A.ns ++ [k.nd c]).getD i default).key ≠ ((A.ns ++ [k.nd c]).getD j default).key) ∧
      (∀ i, i < (A.ns ++ [k.nd c]).length → ((A.ns ++ [k.nd c]).getD i default).Fit) := by
  have hx := hr.here
  have hno := hi.ht.no hr.probe (by rw [← hx]; exact h0)
  have hlast : (A.ns ++ [k.nd c]).getD A.ns.length default = k.nd c := by simp
  refine ⟨?_, ?_, ?_⟩
  · have h1 := hi.ht.append (k.nd c)
    have hp := hr.probe.append (fun y => Nat.le_trans (hi.ht.entry y) (Nat.le_refl _)) (k.nd c)
    have h2 := h1.put (j := A.ns.length) (by simp) (by have := hi.load; have := hi.big; omega) (d := d) (by rw [hlast]; exact hp) (by rw [hlast, Key.nd_key, ← hx]; exact h0)
    rw [hlast, Key.nd_key, ← hx] at h2
    exact h2
  · intro i j hij hj
    have hj' : j < A.ns.length + 1 := by simpa using hj
    rw [getD_append_left (by omega)]
    by_cases e : j = A.ns.length
    · rw [e, hlast]; exact hno i (by omega)
    · rw [getD_append_left (by omega)]; exact hi.dis i j hij (by omega)
  · intro i hi'
    have hi2 : i < A.ns.length + 1 := by simpa using hi'
    by_cases e : i = A.ns.length
    · rw [e, hlast]; exact hkf
    · rw [getD_append_left (by omega)]; exact hi.fit i (by omega)

/-- The arena with a new node, before its slot is set. -/
def Ars.made1 (A : Ars) (v : Value) (n : Nd) : Ars := A.noded v (A.ns ++ [n])
/-- .. and behind that. -/
def Ars.made2 (A : Ars) (v : Value) (n : Nd) (x : Nat) : Ars := (A.made1 v n).slotted A.vs (A.ss.set x (A.ns.length + 1))

structure Made (A : Ars) (w : World) (B : Ars) (w' : World) : Prop where
  at_ : B.At w'
  only : Only A.foot w w'
  foot : ∀ k, B.foot k → A.foot k ∨ w.heap.size ≤ k

theorem made1 {A : Ars} {w V w1 : World} {n : Nd} {gg cap2 : Nat} (hO : Only (fun _ => False) w V) (hV : A.At V) (hgrow : V.grownBy w1 A.vn.ownBlock)
    (hown : w1.ownsRow 0 129 7 (.slice (some ⟨gg, 0, none⟩) (A.ns.length + 1) cap2) (A.ns.length + 1) (ndCells A.ns ++ n.cells)) (hat : A.vn.ownBlock = some gg ∨ w.heap.size ≤ gg) :
    Made A w (A.made1 (.slice (some ⟨gg, 0, none⟩) (A.ns.length + 1) cap2) n) (w1.setCell ⟨A.p, 0, none⟩ (.slice (some ⟨gg, 0, none⟩) (A.ns.length + 1) cap2)) := by
  refine ⟨hV.push hown hgrow, ?_, ?_⟩
  · have h1 : Only A.foot w w1 := (hO.mono (fun _ _ h => h.elim)).grown hgrow (fun k e _ => .inr (.inl e))
    exact h1.trans (Only.set1 w1 A.p 0 _) (fun i _ e => .inl e)
  · intro k hk
    rcases hk with h | h | h | h
    · exact .inl (.inl h)
    · have h' : gg = k := by simpa [Ars.made1, Ars.noded, Value.ownBlock] using h
      subst h'
      rcases hat with h1 | h1
      · exact .inl (.inr (.inl h1))
      · exact .inr h1
    · exact .inl (.inr (.inr (.inl h)))
    · exact .inl (.inr (.inr (.inr h)))

theorem made2 {A : Ars} {w V : World} {n : Nd} {v : Value} {g cap x : Nat} (h : Made A w (A.made1 v n) V) (hv : A.vs = .slice (some ⟨g, 0, none⟩) A.ss.length cap) :
    Made A w (A.made2 v n x) (V.setCell ⟨g, x, none⟩ (.int .u32 (A.ns.length + 1 : Nat))) := by
  refine ⟨?_, ?_, fun k hk => h.foot k hk⟩
  · exact h.at_.putSlot (A := A.made1 v n) (by simpa [Ars.made1, Ars.noded] using hv) x (A.ns.length + 1)
  · exact h.only.trans (Only.set1 V g x _) (fun i _ e => .inr (.inr (.inl (by subst e; rw [hv]; rfl))))

theorem Made.drew {A B : Ars} {w V : World} (h : Made A w B V) : Made A w B V.drew := ⟨h.at_.drew, h.only.drew, h.foot⟩
theorem Made.drewN {A B : Ars} {w V : World} (h : Made A w B V) (n : Nat) : Made A w B (V.drewN n) := ⟨h.at_.drewN n, h.only.drewN n, h.foot⟩

theorem made_inv {A : Ars} {k : Key} {c x d : Nat} {v : Value} (hi : A.Inv) (hc : c ≤ 4611686018427387904) (hr : SlotRes A k x d) (h0 : A.ss.getD x 0 = 0) (hkf : (k.nd c).Fit) (hl : 2 * (A.ns.length + 1) ≤ A.ss.length) : (A.made2 v (k.nd c) x).Inv := by
  obtain ⟨h1, h2, h3⟩ := hi.put (c := c) hr h0 hkf
  have hs := hi.size
  have hb := hi.big
  have hl1 : (A.ns ++ [k.nd c]).length = A.ns.length + 1 := by simp
  refine ⟨by simp only [Ars.made2, Ars.made1, Ars.slotted, Ars.noded, hl1]; exact h1, by simp only [Ars.made2, Ars.made1, Ars.slotted, Ars.noded, hl1, List.length_set]; exact hl,
    by simp only [Ars.made2, Ars.made1, Ars.slotted, Ars.noded, hl1, List.length_set]; omega, by simp only [Ars.made2, Ars.slotted, List.length_set]; exact hb, h2, h3, ?_⟩
  intro i hi'
  have hi2 : i < A.ns.length + 1 := by simpa [Ars.made2, Ars.made1, Ars.slotted, Ars.noded] using hi'
  show ((A.ns ++ [k.nd c]).getD i default).cnt ≤ _
  by_cases e : i = A.ns.length
  · subst e; simpa [Key.nd] using hc
  · rw [getD_append_left (by omega)]; exact hi.cnt i (by omega)

theorem grown_inv {A : Ars} {k : Key} {c x d : Nat} {v : Value} {w w' : World} {ss : List Nat} (hi : A.Inv) (hc : c ≤ 4611686018427387904) (hr : SlotRes A k x d) (h0 : A.ss.getD x 0 = 0) (hkf : (k.nd c).Fit) (hl : A.ss.length < 2 * (A.ns.length + 1))
    (hg : GrowRel (A.made2 v (k.nd c) x) w (2 * A.ss.length) (A.ns.length + 1) ss w') : ((A.made2 v (k.nd c) x).slotted (.slice (some ⟨w.heap.size, 0, none⟩) (2 * A.ss.length) (2 * A.ss.length)) ss).Inv := by
  obtain ⟨h1, h2, h3⟩ := hi.put (c := c) hr h0 hkf
  have hs := hi.size
  have hb := hi.big
  have hld := hi.load
  have hl1 : (A.ns ++ [k.nd c]).length = A.ns.length + 1 := by simp
  have hlen := hg.len
  refine ⟨by simp only [Ars.made2, Ars.made1, Ars.slotted, Ars.noded, hl1]; exact hg.ht, by simp only [Ars.made2, Ars.made1, Ars.slotted, Ars.noded, hl1, hlen]; omega,
    by simp only [Ars.made2, Ars.made1, Ars.slotted, Ars.noded, hl1, hlen]; omega, by simp only [Ars.slotted, hlen]; omega, h2, h3, ?_⟩
  intro i hi'
  have hi2 : i < A.ns.length + 1 := by simpa [Ars.made2, Ars.made1, Ars.slotted, Ars.noded] using hi'
  show ((A.ns ++ [k.nd c]).getD i default).cnt ≤ _
  by_cases e : i = A.ns.length
  · subst e; simpa [Key.nd] using hc
  · rw [getD_append_left (by omega)]; exact hi.cnt i (by omega)

/-- What find answers, and what it makes of the arena. -/
def FindPost (A : Ars) (w : World) (k : Key) (c : Nat) (e : Ending) (w' : World) : Prop :=
  ∃ A', A.Step w (findR A.ns A.most k c).2.2 A' w' ∧ e = .returned (.tuple #[.int .u32 (findR A.ns A.most k c).1, errV (findR A.ns A.most k c).2.1])

theorem FindPost.found {A : Ars} {w w' : World} {k : Key} {c x d s : Nat} (hA : A.At w) (hi : A.Inv) (ho : Only (fun _ => False) w w') (hr : SlotRes A k x d) (hs : A.ss.getD x 0 = s + 1) :
    FindPost A w k c (.returned (.tuple #[.int .u32 s, .nilIface])) w' := by
  have he := hi.ht.entry x
  have hk : (A.ns.getD s default).key = k := by
    rcases hr.stop with h | h
    · omega
    · rwa [hs, Nat.add_sub_cancel] at h
  have hx := idx_some (by omega) hk hi.dis
  refine ⟨A, ?_, ?_⟩
  · unfold findR; rw [hx]; exact Ars.Step.same hA hi ho
  · unfold findR; rw [hx]; simp [errV]

theorem FindPost.full {A : Ars} {w w' : World} {k : Key} {c x d : Nat} (hA : A.At w) (hi : A.Inv) (ho : Only (fun _ => False) w w') (hr : SlotRes A k x d) (hs : A.ss.getD x 0 = 0) (hm : A.most ≤ A.ns.length) :
    FindPost A w k c (.returned (.tuple #[.int .u32 0, .iface 96 (.int .i64 8)])) w' := by
  have hx := idx_none (hi.ht.no hr.probe (by rw [← hr.here]; exact hs))
  refine ⟨A, ?_, ?_⟩
  · unfold findR; rw [hx, if_pos hm]; exact Ars.Step.same hA hi ho
  · unfold findR; rw [hx, if_pos hm]; simp [errV]

theorem FindPost.made {A B : Ars} {w w' : World} {k : Key} {c x d : Nat} (hi : A.Inv) (hr : SlotRes A k x d) (hs : A.ss.getD x 0 = 0) (hm : ¬ A.most ≤ A.ns.length) (hM : Made A w B w') (hB : B.Inv)
    (h1 : B.ns = A.ns ++ [k.nd c]) (h2 : B.p = A.p) (h3 : B.es = A.es) (h4 : B.ve = A.ve) (h5 : B.most = A.most) :
    FindPost A w k c (.returned (.tuple #[.int .u32 A.ns.length, .nilIface])) w' := by
  have hx := idx_none (hi.ht.no hr.probe (by rw [← hr.here]; exact hs))
  refine ⟨B, ?_, ?_⟩
  · unfold findR; rw [hx, if_neg hm]; exact ⟨hM.at_, hB, h1, h2, h3, h4, h5, hM.only, hM.foot⟩
  · unfold findR; rw [hx, if_neg hm]; simp [errV]

theorem Made.grown {A B : Ars} {w V V' : World} {v : Value} {n : Nd} {x : Nat} {ss : List Nat} (hM : Made A w (A.made2 v n x) V) (hg : GrowRel (A.made2 v n x) V (2 * A.ss.length) (A.ns.length + 1) ss V')
    (hB : B = (A.made2 v n x).slotted (.slice (some ⟨V.heap.size, 0, none⟩) (2 * A.ss.length) (2 * A.ss.length)) ss) : Made A w B V' := by
  subst hB
  refine ⟨hg.at_, hM.only.trans hg.only (fun i _ e => .inl e), ?_⟩
  intro k hk
  rcases hk with h | h | h | h
  · exact hM.foot k (.inl h)
  · exact hM.foot k (.inr (.inl h))
  · have h' : V.heap.size = k := by simpa [Ars.slotted, Value.ownBlock] using h
    exact .inr (h' ▸ hM.only.size)
  · exact hM.foot k (.inr (.inr (.inr h)))
end Go.Proofs.Ytblhbfniomlfkaa
