/- SweepCollects, the plain part: the rows of places and roots; what is collected counts what is reached. -/
import Derived.Test.YtblhbfniomlfkaaGrown
namespace Go.Proofs.Ytblhbfniomlfkaa
open Go.RowKit

/-- A slice of int that came in. -/
structure ArgI (w : World) (ad : Option Addr) (n : Nat) : Prop where
  max : n ≤ 9223372036854775807
  cell : ∀ i, i < n → ∃ (b off : Nat) (z : Int), ad = some ⟨b, off, none⟩ ∧ In64 z ∧ w.cell? ⟨b, off + i, none⟩ = some (.int .i64 z)

theorem ArgU.keep {w w' : World} {ad : Option Addr} {n : Nat} (h : ArgU w ad n) (ho : Only (fun _ => False) w w') : ArgU w' ad n :=
  ⟨h.max, fun i hi => by
    obtain ⟨b, off, z, h1, h2, h3⟩ := h.cell i hi
    exact ⟨b, off, z, h1, h2, ho.cell h3 (fun h => h)⟩⟩
theorem ArgI.keep {w w' : World} {ad : Option Addr} {n : Nat} (h : ArgI w ad n) (ho : Only (fun _ => False) w w') : ArgI w' ad n :=
  ⟨h.max, fun i hi => by
    obtain ⟨b, off, z, h1, h2, h3⟩ := h.cell i hi
    exact ⟨b, off, z, h1, h2, ho.cell h3 (fun h => h)⟩⟩
theorem Arg4.keep {w w' : World} {ad : Option Addr} {n : Nat} (h : Arg4 w ad n) (ho : Only (fun _ => False) w w') : Arg4 w' ad n :=
  ⟨h.max, fun i hi => by
    obtain ⟨b, off, z0, z1, z2, z3, h0, h1, h2, h3, h4, h5⟩ := h.cell i hi
    exact ⟨b, off, z0, z1, z2, z3, h0, ho.cell h1 (fun h => h), ho.cell h2 (fun h => h), ho.cell h3 (fun h => h), ho.cell h4 (fun h => h), h5⟩⟩

theorem Gr.keepS {w wr W : World} {A : Ars} {vx vat : Value} {S : Nat → Prop} (h : Gr w A vx vat wr) (ho : Only S wr W) (h1 : ∀ k, A.foot k → ¬ S k) (h2 : ∀ k, vx.ownBlock = some k → ¬ S k) (h3 : ∀ k, vat.ownBlock = some k → ¬ S k) (h4 : ∀ k, k < w.heap.size → ¬ S k) : Gr w A vx vat W :=
  ⟨h.at_.keep ho h1, h.inv, h.wf, h.most, h.ref.keep ho h2, own_only h.row ho h3, h.apart, h.only.trans ho (fun i hi hs => h4 i hi hs), h.foot, h.newat⟩

/-- The rows of places and roots. -/
structure SL (w : World) (A : Ars) (vx vat : Value) (b8 : Nat) (lp lr : List Nat) (vp vr : Value) (wr : World) : Prop where
  gr : Gr w A vx vat wr
  box : Blk wr b8 29 #[vx, .int .i64 1000]
  pls : wr.ownsRow 0 3 1 vp lp.length (nums .i64 lp)
  rts : wr.ownsRow 0 32 1 vr lr.length (nums .u32 lr)
  ap : ∀ k, vr.ownBlock = some k → ¬ A.foot k ∧ vat.ownBlock ≠ some k
  newp : ∀ k, vp.ownBlock = some k → w.heap.size ≤ k
  newr : ∀ k, vr.ownBlock = some k → w.heap.size ≤ k

section
variable {w wr W : World} {A : Ars} {vx vat vp vr : Value} {b8 : Nat} {lp lr : List Nat}
theorem SL.keep0 (h : SL w A vx vat b8 lp lr vp vr wr) (ho : Only (fun _ => False) wr W) : SL w A vx vat b8 lp lr vp vr W :=
  ⟨h.gr.keepS ho (fun _ _ h => h) (fun _ _ h => h) (fun _ _ h => h) (fun _ _ h => h), h.box.only ho (fun h => h), own_only h.pls ho (fun _ _ h => h), own_only h.rts ho (fun _ _ h => h), h.ap, h.newp, h.newr⟩
theorem SL.alloc (h : SL w A vx vat b8 lp lr vp vr wr) (o : Obj) : SL w A vx vat b8 lp lr vp vr (wr.alloc o) := h.keep0 ((Only.refl _ _).alloc o)
theorem SL.pushP {g cp y : Nat} (h : SL w A vx vat b8 lp lr vp vr wr) (hg : wr.grownBy W vp.ownBlock) (hr : W.ownsRow 0 3 1 (.slice (some ⟨g, 0, none⟩) (lp.length + 1) cp) (lp ++ [y]).length (nums .i64 (lp ++ [y]))) (hat : vp.ownBlock = some g ∨ g = wr.heap.size) :
    SL w A vx vat b8 (lp ++ [y]) lr (.slice (some ⟨g, 0, none⟩) (lp.length + 1) cp) vr W := by
  have ho : Only (fun k => vp.ownBlock = some k) wr W := (Only.refl _ wr).grown hg (fun k e _ => e)
  refine ⟨h.gr.keepS ho (fun k hk hs => ?_) (fun k hk hs => own_own_ne h.pls h.gr.ref (by decide) k hs hk) (fun k hk hs => own_own_ne h.pls h.gr.row (by decide) k hs hk) (fun k hk hs => by have := h.newp k hs; omega),
    h.box.only ho (fun hs => own_blk_ne h.pls h.box (by decide) hs), hr, own_only h.rts ho (fun k hk hs => own_own_ne h.pls h.rts (by decide) k hs hk), h.ap, fun k hk => ?_, h.newr⟩
  · rcases hk with rfl | e | e | e
    · exact own_blk_ne h.pls h.gr.at_.blk (by decide) hs
    · exact own_own_ne h.pls h.gr.at_.own (by decide) k hs e
    · exact own_own_ne h.pls h.gr.at_.ows (by decide) k hs e
    · exact own_own_ne h.pls h.gr.at_.owe (by decide) k hs e
  · have hk' : g = k := by simpa [Value.ownBlock] using hk
    subst hk'
    rcases hat with e | e
    · exact h.newp g e
    · have := h.gr.only.size; omega
theorem SL.pushR {g cp y : Nat} (h : SL w A vx vat b8 lp lr vp vr wr) (hg : wr.grownBy W vr.ownBlock) (hr : W.ownsRow 0 32 1 (.slice (some ⟨g, 0, none⟩) (lr.length + 1) cp) (lr ++ [y]).length (nums .u32 (lr ++ [y]))) (hat : vr.ownBlock = some g ∨ g = wr.heap.size) :
    SL w A vx vat b8 lp (lr ++ [y]) vp (.slice (some ⟨g, 0, none⟩) (lr.length + 1) cp) W := by
  have ho : Only (fun k => vr.ownBlock = some k) wr W := (Only.refl _ wr).grown hg (fun k e _ => e)
  refine ⟨h.gr.keepS ho (fun k hk hs => (h.ap k hs).1 hk) (fun k hk hs => own_own_ne h.rts h.gr.ref (by decide) k hs hk) (fun k hk hs => (h.ap k hs).2 hk) (fun k hk hs => by have := h.newr k hs; omega),
    h.box.only ho (fun hs => own_blk_ne h.rts h.box (by decide) hs), own_only h.pls ho (fun k hk hs => own_own_ne h.rts h.pls (by decide) k hs hk), hr, fun k hk => ?_, h.newp, fun k hk => ?_⟩
  · have hk' : g = k := by simpa [Value.ownBlock] using hk
    subst hk'
    rcases hat with e | e
    · exact h.ap g e
    · refine ⟨fun hf => ?_, fun hf => ?_⟩
      · have := h.gr.at_.lt hf; omega
      · have := own_lt h.gr.row hf; omega
  · have hk' : g = k := by simpa [Value.ownBlock] using hk
    subst hk'
    rcases hat with e | e
    · exact h.newr g e
    · have := h.gr.only.size; omega
end

/-- What is collected: the nodes reached. -/
theorem CollRes.seen {A B : Ars} {rs l : List Nat} {w w' : World} {M : List (Nat × Nat)} {v : Value} (h : CollRes A rs w B M v l w') : Seen A.ns rs (M.map (·.1)) := by
  refine ⟨⟨h.ok.dom, fun k hk => ?_⟩, fun r hr => ?_, fun k hk => ⟨?_, fun hl i _ => ?_⟩⟩
  · obtain ⟨⟨a, b⟩, hp, rfl⟩ := List.mem_map.1 hk
    exact (h.ok.lt a b hp).1
  · obtain ⟨i, hi, rfl⟩ := List.getElem_of_mem hr
    have := h.pair i hi
    rw [show rs.getD i 0 = rs[i] from by simp [hi]] at this
    exact List.mem_map.2 ⟨_, this, rfl⟩
  · obtain ⟨⟨a, b⟩, hp, rfl⟩ := List.mem_map.1 hk
    exact h.new a b hp
  · obtain ⟨⟨a, b⟩, hp, rfl⟩ := List.mem_map.1 hk
    exact List.mem_map.2 ⟨_, h.ok.kid a b hp hl i, rfl⟩
theorem CollRes.length {A B : Ars} {rs l S : List Nat} {w w' : World} {M : List (Nat × Nat)} {v : Value} (h : CollRes A rs w B M v l w') (hW : Wf A.ns) (hI : A.Inv) (hS : Seen A.ns rs S) : B.ns.length = S.length + (if 0 ∈ S then 0 else 1) := by
  have h1 := h.ok.count hW hI.dis h.inv.dis
  have h2 := h.seen
  have h3 : S.length = (M.map (·.1)).length := hS.count h2.ok.1 (fun k => h2.iff k)
  have h4 : 0 ∈ M.map (·.1) ↔ 0 ∈ S := (h2.iff 0).trans (hS.iff 0).symm
  rw [h1, h3]
  simp only [h4, List.length_map]
theorem CollRes.same {A B : Ars} {rs l : List Nat} {w w' : World} {M : List (Nat × Nat)} {v : Value} (h : CollRes A rs w B M v l w') (hW : Wf A.ns) (hI : A.Inv) {i j : Nat} (hi : i < rs.length) (hj : j < rs.length) : rs.getD i 0 = rs.getD j 0 ↔ l.getD i 0 = l.getD j 0 := by
  have h1 := h.pair i hi
  have h2 := h.pair j hj
  constructor
  · intro e
    rw [e] at h1
    have e1 := mem_lookup h.ok.dom h1
    have e2 := mem_lookup h.ok.dom h2
    exact Option.some.inj (e1.symm.trans e2)
  · intro e
    rw [e] at h1
    exact h.ok.inj hW hI.dis h1 h2
theorem nums_cell {w : World} {e : TypeId} {q : IntKind} {g c n i : Nat} {l : List Nat} (h : w.ownsRow 0 e 1 (.slice (some ⟨g, 0, none⟩) n c) l.length (nums q l)) (hn : n = l.length) (hi : i < l.length) : w.cell? ⟨g, i, none⟩ = some (.int q (l.getD i 0 : Nat)) := by
  subst hn
  rw [h.cellAt i (by simpa [nums] using hi)]
  simp [nums, hi]
end Go.Proofs.Ytblhbfniomlfkaa
