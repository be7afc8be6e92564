/- Words for memory: what a call may write ('Only'), blocks that are known whole, the arena's blocks. -/
import Derived.Test.YtblhbfniomlfkaaChecked
import Derived.Test.YtblhbfniomlfkaaHt
import Derived.WalkKit
import Derived.WalkLawsBesides
import Derived.WalkSpells
import Derived.Lib.Hide
import Derived.Deep.Draws
import Derived.Deep.QuietTactic
import Derived.BigQuiet
import Derived.BigRegion
import Derived.Deep.RegionWith
import Derived.Deep.RegionLaw
import Derived.Deep.RegionLawGrows
import Derived.Deep.DeepFit
import Derived.Deep.Cut
import Derived.Deep.DeepCutAuto
namespace Go.Proofs.Ytblhbfniomlfkaa
open Go.RowKit

/-- Of the blocks that were there only those of S may have turned. -/
structure Only (S : Nat → Prop) (w w' : World) : Prop where
  os : w'.os = w.os
  tape : w'.tape = w.tape
  output : w'.output = w.output
  size : w.heap.size ≤ w'.heap.size
  block : ∀ k, k < w.heap.size → ¬ S k → w'.heap[k]? = w.heap[k]?

theorem Only.refl (S : Nat → Prop) (w : World) : Only S w w := ⟨rfl, rfl, rfl, Nat.le_refl _, fun _ _ _ => rfl⟩
theorem Only.trans {S T : Nat → Prop} {a b c : World} (h : Only S a b) (k : Only T b c) (hT : ∀ i, i < a.heap.size → T i → S i) : Only S a c :=
  ⟨k.os.trans h.os, k.tape.trans h.tape, k.output.trans h.output, Nat.le_trans h.size k.size,
    fun i hi hS => (k.block i (Nat.lt_of_lt_of_le hi h.size) (fun ht => hS (hT i hi ht))).trans (h.block i hi hS)⟩
theorem Only.mono {S T : Nat → Prop} {a b : World} (h : Only S a b) (hT : ∀ i, i < a.heap.size → S i → T i) : Only T a b :=
  ⟨h.os, h.tape, h.output, h.size, fun i hi hS => h.block i hi (fun hs => hS (hT i hi hs))⟩
theorem Only.drew {S : Nat → Prop} {a w : World} (h : Only S a w) : Only S a w.drew := ⟨h.os, h.tape, h.output, h.size, h.block⟩
theorem Only.drewN {S : Nat → Prop} {a w : World} (h : Only S a w) (n : Nat) : Only S a (w.drewN n) := ⟨h.os, h.tape, h.output, h.size, h.block⟩
theorem Only.alloc {S : Nat → Prop} {a w : World} (h : Only S a w) (o : Obj) : Only S a (w.alloc o) :=
  h.trans (T := fun _ => False) ⟨rfl, rfl, rfl, by simp, fun k hk _ => Below.heap_alloc _ _ _ (by omega)⟩ (fun _ _ h => h.elim)
theorem Only.setCell {S : Nat → Prop} {a w : World} (h : Only S a w) {p : Addr} (hp : p.block < a.heap.size → S p.block) (u : Value) : Only S a (w.setCell p u) :=
  h.trans (T := fun k => k = p.block) ⟨rfl, rfl, rfl, by simp [World.setCell], fun k _ hne => Below.heap_setCell _ _ _ _ hne⟩ (fun i hi e => by subst e; exact hp hi)
theorem Only.set1 (w : World) (g i : Nat) (u : Value) : Only (fun k => k = g) w (w.setCell ⟨g, i, none⟩ u) :=
  (Only.refl (fun k => k = g) w).setCell (p := ⟨g, i, none⟩) (fun _ => rfl) u
theorem Only.grown {S : Nat → Prop} {a w w' : World} {row : Option Nat} (h : Only S a w) (hg : w.grownBy w' row) (hr : ∀ k, row = some k → k < a.heap.size → S k) : Only S a w' :=
  h.trans (T := fun k => some k = row) ⟨hg.os, hg.tape, hg.output, hg.size, hg.block⟩ (fun i hi e => hr i e.symm hi)
theorem Only.below {B : Nat} {S : Nat → Prop} {w w' : World} (h : Only S w w') (hB : B ≤ w.heap.size) (hS : ∀ k, S k → B ≤ k) : Below B w w' :=
  ⟨h.os, h.tape, h.output, h.size, fun k hk => h.block k (by omega) (fun hs => by have := hS k hs; omega)⟩
theorem Only.cell {S : Nat → Prop} {w w' : World} (h : Only S w w') {p : Addr} {v : Value} (hc : w.cell? p = some v) (hS : ¬ S p.block) : w'.cell? p = some v :=
  (World.cell?_of_block (w := w) (h.block p.block (World.block_lt_of_cell? w p hc) hS)).trans hc
theorem Only.of_below {B : Nat} {w w' : World} (h : Below B w w') : Only (fun k => B ≤ k) w w' :=
  ⟨h.os, h.tape, h.output, h.size, fun k _ hs => h.block k (by omega)⟩

/-- Block g is known whole. -/
def Blk (w : World) (g : Nat) (t : TypeId) (cs : Array Value) : Prop := w.heap[g]? = some (.cells cs t (0, 0))

section
variable {w w' : World} {g : Nat} {t : TypeId} {cs : Array Value}
theorem Blk.lt (h : Blk w g t cs) : g < w.heap.size := by
  rcases Nat.lt_or_ge g w.heap.size with hlt | hge
  · exact hlt
  · unfold Blk at h; rw [Array.getElem?_eq_none hge] at h; cases h
theorem Blk.cell (h : Blk w g t cs) (i : Nat) : w.cell? ⟨g, i, none⟩ = cs[i]? := cell_of_row w g i cs t (0, 0) h
theorem Blk.frozen (h : Blk w g t cs) (i : Nat) : w.frozen? ⟨g, i, none⟩ = false := by
  unfold Blk at h
  simp [World.frozen?, h]
theorem Blk.new (w : World) (t : TypeId) (cs : Array Value) : Blk (w.alloc (.cells cs t)) w.heap.size t cs := heap_alloc_new w _
theorem Blk.drew (h : Blk w g t cs) : Blk w.drew g t cs := h
theorem Blk.drewN (h : Blk w g t cs) (n : Nat) : Blk (w.drewN n) g t cs := h
theorem Blk.alloc (h : Blk w g t cs) (o : Obj) : Blk (w.alloc o) g t cs := (Below.heap_alloc w o g h.lt).trans h
theorem Blk.set_ (h : Blk w g t cs) (i : Nat) (u : Value) : Blk (w.setCell ⟨g, i, none⟩ u) g t (cs.setIfInBounds i u) := by
  unfold Blk at h ⊢
  simp [World.setCell, Array.getElem?_modify, h]
theorem Blk.far (h : Blk w g t cs) {p : Addr} (hp : g ≠ p.block) (u : Value) : Blk (w.setCell p u) g t cs := (Below.heap_setCell w p u g hp).trans h
theorem Blk.only {S : Nat → Prop} (h : Blk w g t cs) (hb : Only S w w') (hS : ¬ S g) : Blk w' g t cs := (hb.block g h.lt hS).trans h
theorem Blk.grown {row : Option Nat} (h : Blk w g t cs) (hb : w.grownBy w' row) (hg : some g ≠ row) : Blk w' g t cs := (hb.block g h.lt hg).trans h
theorem Blk.ne_ {g' : Nat} {t' : TypeId} {cs' : Array Value} (h : Blk w g t cs) (h' : Blk w g' t' cs') (hne : t ≠ t') : g ≠ g' := by
  rintro rfl
  unfold Blk at h h'
  rw [h] at h'
  injection h' with h'
  injection h' with _ ht
  exact hne ht
end

section
variable {w w' : World} {base : Nat} {e : TypeId} {size n : Nat} {v : Value} {xs : List Value}
theorem own_blk_ne {g : Nat} {t : TypeId} {cs : Array Value} (h : w.ownsRow base e size v n xs) (hg : Blk w g t cs) (hne : e ≠ t) : v.ownBlock ≠ some g := by
  rcases h.2 with ⟨rfl, _⟩ | ⟨g', cap, cur, rfl, _, hh, _⟩
  · simp [Value.ownBlock]
  · intro he
    have : g' = g := by simpa [Value.ownBlock] using he
    subst this
    exact Blk.ne_ (t := e) hh hg hne rfl
theorem own_own_ne {base' : Nat} {e' : TypeId} {size' n' : Nat} {v' : Value} {xs' : List Value} (h : w.ownsRow base e size v n xs) (h' : w.ownsRow base' e' size' v' n' xs') (hne : e ≠ e') (k : Nat) (hk : v.ownBlock = some k) : v'.ownBlock ≠ some k := by
  rcases h.2 with ⟨rfl, _⟩ | ⟨g', cap, cur, rfl, _, hh, _⟩
  · simp [Value.ownBlock] at hk
  · have : g' = k := by simpa [Value.ownBlock] using hk
    subst this
    exact own_blk_ne h' hh (fun x => hne x.symm)
theorem own_only {S : Nat → Prop} (h : w.ownsRow base e size v n xs) (hb : Only S w w') (hS : ∀ k, v.ownBlock = some k → ¬ S k) : w'.ownsRow base e size v n xs := by
  refine ⟨h.1, ?_⟩
  rcases h.2 with hn | ⟨g, cap, cur, rfl, hb', hg, hrest⟩
  · exact .inl hn
  · exact .inr ⟨g, cap, cur, rfl, hb', (hb.block g (Blk.lt (t := e) hg) (hS g rfl)).trans hg, hrest⟩
theorem own_lt (h : w.ownsRow base e size v n xs) {k : Nat} (hk : v.ownBlock = some k) : k < w.heap.size := (h.lt k hk).2
/-- An owned slice of at least one element, written out. -/
theorem own_form (h : w.ownsRow base e size v n xs) (hn : 0 < n) : ∃ g cap, v = .slice (some ⟨g, 0, none⟩) n cap ∧ n ≤ cap ∧ cap ≤ maxLen := by
  rcases h.2 with ⟨_, h0⟩ | ⟨g, cap, cur, rfl, _, _, hnc, hm, _⟩
  · omega
  · exact ⟨g, cap, rfl, hnc, hm⟩
/-- An owned slice, written out as far as one can without a case. -/
theorem own_slice (h : w.ownsRow base e size v n xs) : ∃ a cap, v = .slice a n cap ∧ n ≤ maxLen := by
  rcases h.2 with ⟨h1, h0⟩ | ⟨g, cap, cur, rfl, _, _, hnc, hm, _⟩
  · exact ⟨none, 0, by rw [h1, h0], by omega⟩
  · exact ⟨_, cap, rfl, by omega⟩
end

def i64 (n : Int) : Value := .int .i64 n
def u32 (n : Nat) : Value := .int .u32 n
def Nd.cells (n : Nd) : List Value := [.int .i64 n.lv, .int .u32 n.bits, .int .u32 n.k0, .int .u32 n.k1, .int .u32 n.k2, .int .u32 n.k3, .int .u64 n.cnt]
def ndCells (ns : List Nd) : List Value := ns.flatMap Nd.cells
def u32s (l : List Nat) : List Value := l.map fun (n : Nat) => .int .u32 n
theorem ndCells_append (a b : List Nd) : ndCells (a ++ b) = ndCells a ++ ndCells b := by simp [ndCells]
theorem ndCells_length (ns : List Nd) : (ndCells ns).length = ns.length * 7 := by
  induction ns with
  | nil => rfl
  | cons n l ih => simp only [ndCells, List.flatMap_cons, List.length_append, List.length_cons] at *; rw [ih]; simp [Nd.cells]; omega
theorem ndCells_get (ns : List Nd) (i j : Nat) (hi : i < ns.length) (hj : j < 7) : (ndCells ns)[i * 7 + j]? = (ns.getD i default).cells[j]? := by
  induction ns generalizing i with
  | nil => simp at hi
  | cons n l ih =>
    have hl : n.cells.length = 7 := rfl
    cases i with
    | zero =>
      simp only [ndCells, List.flatMap_cons]
      rw [List.getElem?_append_left (by omega)]
      simp
    | succ i =>
      simp only [ndCells, List.flatMap_cons]
      rw [List.getElem?_append_right (by omega), hl, show (i + 1) * 7 + j - 7 = i * 7 + j from by omega]
      exact ih i (by simpa using hi)

/-- The arena's memory: the struct's block, the three slices' values, what they hold. -/
structure Ars where
  p : Nat
  vn : Value
  vs : Value
  ve : Value
  ns : List Nd
  ss : List Nat
  es : List Nat
  most : Int

structure Ars.At (A : Ars) (w : World) : Prop where
  blk : Blk w A.p 102 #[A.vn, A.vs, A.ve, .int .i64 A.most]
  own : w.ownsRow 0 129 7 A.vn A.ns.length (ndCells A.ns)
  ows : w.ownsRow 0 32 1 A.vs A.ss.length (u32s A.ss)
  owe : w.ownsRow 0 32 1 A.ve A.es.length (u32s A.es)
  apart : ∀ k, A.vs.ownBlock = some k → A.ve.ownBlock ≠ some k

/-- The blocks that are the arena's own. -/
def Ars.foot (A : Ars) (k : Nat) : Prop := k = A.p ∨ A.vn.ownBlock = some k ∨ A.vs.ownBlock = some k ∨ A.ve.ownBlock = some k

theorem Ars.At.keep {A : Ars} {S : Nat → Prop} {w w' : World} (h : A.At w) (hb : Only S w w') (hS : ∀ k, A.foot k → ¬ S k) : A.At w' :=
  ⟨h.blk.only hb (hS _ (.inl rfl)), own_only h.own hb (fun k e => hS k (.inr (.inl e))), own_only h.ows hb (fun k e => hS k (.inr (.inr (.inl e)))), own_only h.owe hb (fun k e => hS k (.inr (.inr (.inr e)))), h.apart⟩
theorem Ars.At.lt {A : Ars} {w : World} (h : A.At w) {k : Nat} (hk : A.foot k) : k < w.heap.size := by
  rcases hk with rfl | e | e | e
  · exact h.blk.lt
  · exact own_lt h.own e
  · exact own_lt h.ows e
  · exact own_lt h.owe e
theorem Ars.At.drewN {A : Ars} {w : World} (h : A.At w) (n : Nat) : A.At (w.drewN n) := ⟨h.blk, h.own, h.ows, h.owe, h.apart⟩
theorem Ars.At.drew {A : Ars} {w : World} (h : A.At w) : A.At w.drew := ⟨h.blk, h.own, h.ows, h.owe, h.apart⟩
theorem Ars.At.alloc {A : Ars} {w : World} (h : A.At w) (o : Obj) : A.At (w.alloc o) := h.keep ((Only.refl (fun _ => False) w).alloc o) (fun _ _ h => h)
theorem Ars.At.grown {A : Ars} {w w' : World} (h : A.At w) (hg : w.grownBy w' none) : A.At w' := h.keep ((Only.refl (fun _ => False) w).grown hg (fun k e => by cases e)) (fun _ _ h => h)
theorem Ars.At.c0 {A : Ars} {w : World} (h : A.At w) : w.cell? ⟨A.p, 0, none⟩ = some A.vn := by rw [h.blk.cell]; rfl
theorem Ars.At.c1 {A : Ars} {w : World} (h : A.At w) : w.cell? ⟨A.p, 1, none⟩ = some A.vs := by rw [h.blk.cell]; rfl
theorem Ars.At.c2 {A : Ars} {w : World} (h : A.At w) : w.cell? ⟨A.p, 2, none⟩ = some A.ve := by rw [h.blk.cell]; rfl
theorem Ars.At.c3 {A : Ars} {w : World} (h : A.At w) : w.cell? ⟨A.p, 3, none⟩ = some (.int .i64 A.most) := by rw [h.blk.cell]; rfl
theorem Ars.At.f {A : Ars} {w : World} (h : A.At w) (i : Nat) : w.frozen? ⟨A.p, i, none⟩ = false := h.blk.frozen i
/-- The cells of one node. -/
theorem own_node {w : World} {g n cap : Nat} {ns : List Nd} (h : w.ownsRow 0 129 7 (.slice (some ⟨g, 0, none⟩) n cap) n (ndCells ns)) (hn : n = ns.length) {i : Nat} (hi : i < ns.length) (j : Nat) (hj : j < 7) :
    w.cell? ⟨g, i * 7 + j, none⟩ = (ns.getD i default).cells[j]? := by
  rw [h.cellAt _ (by omega), ndCells_get ns i j hi hj]

end Go.Proofs.Ytblhbfniomlfkaa
