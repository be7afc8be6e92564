/- Grown, the plain part: the arena and the reference's list stay equal. -/
import Derived.Test.YtblhbfniomlfkaaRefReach
import Derived.Test.YtblhbfniomlfkaaAwake17
import Derived.Test.YtblhbfniomlfkaaAlike
namespace Go.Proofs.Ytblhbfniomlfkaa
open Go.RowKit

theorem Wf.lv_le {ns : List Nd} (h : Wf ns) : ∀ i, i < ns.length → lvN ns i ≤ i + 2 := by
  intro i
  induction i using Nat.strongRecOn with
  | ind i ih => ?_
  intro hi
  by_cases e : 2 < lvN ns i
  · obtain ⟨h1, h2⟩ := (h.join i hi e).2.1 0
    have := ih _ h1 (by omega)
    omega
  · omega

/-- What Grown holds between its steps. -/
structure Gr (w : World) (A : Ars) (vx vat : Value) (wr : World) : Prop where
  at_ : A.At wr
  inv : A.Inv
  wf : Wf A.ns
  most : A.most = 1000
  ref : RefAt wr vx A.ns
  row : wr.ownsRow 0 32 1 vat (List.range A.ns.length).length (nums .u32 (List.range A.ns.length))
  apart : ∀ k, vat.ownBlock = some k → ¬ A.foot k
  only : Only (fun _ => False) w wr
  foot : ∀ k, A.foot k → w.heap.size ≤ k
  newat : ∀ k, vat.ownBlock = some k → w.heap.size ≤ k

theorem range_getD (n i : Nat) (h : i < n) : (List.range n).getD i 0 = i := by simp [h]

/-- Behind a find on both sides: the same list; either nothing is new or one node is. -/
theorem findR_cases (ns : List Nd) (most : Int) (k : Key) (c : Nat) (hm : (ns.length : Int) < most) :
    (findR ns most k c).2.1 = 0 ∧ (((findR ns most k c).2.2 = ns ∧ (findR ns most k c).1 < ns.length) ∨ ((findR ns most k c).2.2 = ns ++ [k.nd c] ∧ (findR ns most k c).1 = ns.length)) := by
  unfold findR
  cases h : idx ns k with
  | some i => exact ⟨rfl, .inl ⟨rfl, (idx_spec h).1⟩⟩
  | none =>
    simp only
    rw [if_neg (by omega)]
    exact ⟨rfl, .inr ⟨rfl, rfl⟩⟩

/-- A slice of uint32 that came in. -/
structure ArgU (w : World) (ad : Option Addr) (n : Nat) : Prop where
  max : n ≤ 9223372036854775807
  cell : ∀ i, i < n → ∃ b off z : Nat, ad = some ⟨b, off, none⟩ ∧ z < 4294967296 ∧ w.cell? ⟨b, off + i, none⟩ = some (.int .u32 z)
/-- A slice of [4]int that came in. -/
structure Arg4 (w : World) (ad : Option Addr) (n : Nat) : Prop where
  max : n ≤ 9223372036854775807
  cell : ∀ i, i < n → ∃ (b off : Nat) (z0 z1 z2 z3 : Int), ad = some ⟨b, off, none⟩ ∧ w.cell? ⟨b, off + i * 4, none⟩ = some (.int .i64 z0) ∧ w.cell? ⟨b, off + i * 4 + 1, none⟩ = some (.int .i64 z1) ∧ w.cell? ⟨b, off + i * 4 + 2, none⟩ = some (.int .i64 z2) ∧ w.cell? ⟨b, off + i * 4 + 3, none⟩ = some (.int .i64 z3) ∧
    (-9223372036854775808 ≤ z0 ∧ z0 ≤ 9223372036854775807) ∧ (-9223372036854775808 ≤ z1 ∧ z1 ≤ 9223372036854775807) ∧ (-9223372036854775808 ≤ z2 ∧ z2 ≤ 9223372036854775807) ∧ (-9223372036854775808 ≤ z3 ∧ z3 ≤ 9223372036854775807)

/-- .. and the boxes: r5: the result's; b9: x's. -/
structure GL (w : World) (A : Ars) (vx vat : Value) (b9 : Nat) (wr : World) : Prop where
  gr : Gr w A vx vat wr
  box : Blk wr b9 29 #[vx, .int .i64 1000]
  res : Blk wr w.heap.size 29 #[.slice none 0 0, .int .i64 0]
  lt9 : w.heap.size < b9

theorem Ars.At.not_cells {A : Ars} {w : World} (hA : A.At w) {c : Nat} {t : TypeId} {cs : Array Value} (hB : Blk w c t cs) (h1 : t ≠ 102) (h2 : 129 ≠ t) (h3 : 32 ≠ t) : ¬ A.foot c := by
  rintro (h | h | h | h)
  · exact hB.ne_ hA.blk h1 h
  · exact own_blk_ne hA.own hB h2 h
  · exact own_blk_ne hA.ows hB h3 h
  · exact own_blk_ne hA.owe hB h3 h
theorem RefAt.not_foot {A : Ars} {w : World} {v : Value} {ns : List Nd} (h : RefAt w v ns) (hA : A.At w) : ∀ k, v.ownBlock = some k → ¬ A.foot k := by
  rintro k hk (e | e | e | e)
  · subst e; exact own_blk_ne h hA.blk (by decide) hk
  · exact own_own_ne h hA.own (by decide) k hk e
  · exact own_own_ne h hA.ows (by decide) k hk e
  · exact own_own_ne h hA.owe (by decide) k hk e

/-- Behind the arena's step: all that Grown holds, but for x's box, which is stored next. -/
structure Mid (w : World) (A D : Ars) (vx vy vat : Value) (b9 q : Nat) (W : World) : Prop where
  at_ : D.At W
  inv : D.Inv
  wf : Wf D.ns
  most : D.most = 1000
  p : D.p = A.p
  ref : RefAt W vy D.ns
  row : W.ownsRow 0 32 1 vat (List.range A.ns.length).length (nums .u32 (List.range A.ns.length))
  apart : ∀ k, vat.ownBlock = some k → ¬ D.foot k
  only : Only (fun _ => False) w W
  foot : ∀ k, D.foot k → w.heap.size ≤ k
  newat : ∀ k, vat.ownBlock = some k → w.heap.size ≤ k
  box : Blk W b9 29 #[vx, .int .i64 1000]
  box2 : Blk W q 29 #[vy, .int .i64 1000]
  res : Blk W w.heap.size 29 #[.slice none 0 0, .int .i64 0]
  lt9 : w.heap.size < b9
  ne : b9 ≠ q

theorem GL.mid {w U V W : World} {A D : Ars} {vx vy vat : Value} {b9 q : Nat} (h : GL w A vx vat b9 U) (hUV : Only (fun _ => False) U V) (hx : RefAt V vy D.ns) (hq : Blk V q 29 #[vy, .int .i64 1000]) (hqU : U.heap.size ≤ q) (hs : A.Step V D.ns D W) (hW : Wf D.ns) : Mid w A D vx vy vat b9 q W := by
  have hA := h.gr.at_.keep hUV (fun _ _ h => h)
  have hbox := h.box.only hUV (fun h => h)
  have hres := h.res.only hUV (fun h => h)
  have hrow := own_only h.gr.row hUV (fun _ _ h => h)
  refine ⟨hs.at_, hs.inv, hW, hs.most.trans h.gr.most, hs.p, hx.keep hs.only (hx.not_foot hA), own_only hrow hs.only (fun k hk => h.gr.apart k hk), fun k hk hf => ?_, (h.gr.only.trans hUV (fun _ _ h => h)).trans hs.only (fun i hi hf => by have := h.gr.foot i hf; omega), fun k hk => ?_, h.gr.newat,
    hbox.only hs.only (hA.not_cells hbox (by decide) (by decide) (by decide)), hq.only hs.only (hA.not_cells hq (by decide) (by decide) (by decide)), hres.only hs.only (hA.not_cells hres (by decide) (by decide) (by decide)), h.lt9, by have := h.box.lt; omega⟩
  · rcases hs.foot k hf with e | e
    · exact h.gr.apart k hk e
    · have := own_lt hrow hk; omega
  · rcases hs.foot k hk with e | e
    · exact h.gr.foot k e
    · have := hUV.size; have := h.gr.only.size; omega

/-- Behind the store into x's box, where nothing is new. -/
theorem Mid.same {w W : World} {A D : Ars} {vx vy vat : Value} {b9 q : Nat} (h : Mid w A D vx vy vat b9 q W) (hn : D.ns.length = A.ns.length) : GL w D vy vat b9 ((W.setCell ⟨b9, 0, none⟩ vy).setCell ⟨b9, 1, none⟩ (.int .i64 1000)) := by
  have hb : ¬ D.foot b9 := h.at_.not_cells h.box (by decide) (by decide) (by decide)
  have o1 := Only.set1 W b9 0 vy
  have o2 := Only.set1 (W.setCell ⟨b9, 0, none⟩ vy) b9 1 (.int .i64 1000)
  have o := o1.trans o2 (fun _ _ h => h)
  have hlt := h.lt9
  exact ⟨⟨h.at_.keep o (fun k hk e => hb (e ▸ hk)), h.inv, h.wf, h.most, h.ref.keep o (fun k hk e => own_blk_ne h.ref h.box (by decide) (hk.trans (congrArg some e))), by rw [hn]; exact own_only h.row o (fun k hk e => own_blk_ne h.row h.box (by decide) (hk.trans (congrArg some e))), h.apart, h.only.trans o (fun i hi e => by omega), h.foot, h.newat⟩,
    (h.box.set_ 0 _).set_ 1 _, h.res.only o (fun e => by omega), h.lt9⟩

/-- .. and where a node is new, behind the append to 'at'. -/
theorem Mid.more {w W W4 : World} {A D : Ars} {vx vy vat : Value} {b9 q g' cp : Nat} {o : Obj} (h : Mid w A D vx vy vat b9 q W) (hn : D.ns.length = A.ns.length + 1)
    (hr : W4.ownsRow 0 32 1 (.slice (some ⟨g', 0, none⟩) (A.ns.length + 1) cp) (List.range A.ns.length ++ [A.ns.length]).length (nums .u32 (List.range A.ns.length ++ [A.ns.length])))
    (hg : (((W.setCell ⟨b9, 0, none⟩ vy).setCell ⟨b9, 1, none⟩ (.int .i64 1000)).alloc o).grownBy W4 vat.ownBlock) (hat : vat.ownBlock = some g' ∨ W.heap.size ≤ g') : GL w D vy (.slice (some ⟨g', 0, none⟩) (A.ns.length + 1) cp) b9 W4 := by
  have hb : ¬ D.foot b9 := h.at_.not_cells h.box (by decide) (by decide) (by decide)
  have o12 := (Only.set1 W b9 0 vy).trans (Only.set1 (W.setCell ⟨b9, 0, none⟩ vy) b9 1 (.int .i64 1000)) (fun _ _ h => h)
  have hlt := h.lt9
  have o3 : Only (fun k => k = b9 ∨ vat.ownBlock = some k) W W4 := ((o12.alloc o).mono (fun _ _ h => Or.inl h)).grown hg (fun k e _ => .inr e)
  have hvb : vat.ownBlock ≠ some b9 := own_blk_ne h.row h.box (by decide)
  have hvr : vat.ownBlock ≠ some w.heap.size := own_blk_ne h.row h.res (by decide)
  refine ⟨⟨h.at_.keep o3 (fun k hk e => ?_), h.inv, h.wf, h.most, h.ref.keep o3 (fun k hk e => ?_), ?_, fun k hk hf => ?_, h.only.trans o3 (fun i hi e => ?_), h.foot, fun k hk => ?_⟩, ?_, h.res.only o3 (fun e => ?_), h.lt9⟩
  · rcases e with rfl | e
    · exact hb hk
    · exact h.apart k e hk
  · rcases e with rfl | e
    · exact own_blk_ne h.ref h.box (by decide) hk
    · exact own_own_ne h.ref h.row (by decide) k hk e
  · rw [hn, List.range_succ]; exact hr
  · have hk' : g' = k := by simpa [Value.ownBlock] using hk
    subst hk'
    rcases hat with e | e
    · exact h.apart g' e hf
    · have := h.at_.lt hf; omega
  · rcases e with e | e
    · omega
    · have := h.newat i e; omega
  · have hk' : g' = k := by simpa [Value.ownBlock] using hk
    subst hk'
    rcases hat with e | e
    · exact h.newat g' e
    · have := h.only.size; omega
  · exact (((h.box.set_ 0 vy).set_ 1 (.int .i64 1000)).alloc o).grown hg (fun e => hvb e.symm)
  · rcases e with e | e
    · omega
    · exact hvr e

def ints4 (a b c d : Nat) : Array Value := #[.int .i64 a, .int .i64 b, .int .i64 c, .int .i64 d]
theorem ints4_get (z0 z1 z2 z3 j : Nat) (hj : j < 4) : (ints4 z0 z1 z2 z3)[j]? = some (.int .i64 (four z0 z1 z2 z3 j : Nat)) :=
  match j, hj with
  | 0, _ => rfl
  | 1, _ => rfl
  | 2, _ => rfl
  | 3, _ => rfl
theorem ints4_set (z0 z1 z2 z3 j y : Nat) (hj : j < 4) : ∃ u0 u1 u2 u3, (ints4 z0 z1 z2 z3).setIfInBounds j (.int .i64 y) = ints4 u0 u1 u2 u3 ∧ (kidsCells z0 z1 z2 z3).setIfInBounds j (.int .u32 y) = kidsCells u0 u1 u2 u3 ∧ ∀ i, i < 4 → four u0 u1 u2 u3 i = if i = j then y else four z0 z1 z2 z3 i :=
  match j, hj with
  | 0, _ => ⟨y, z1, z2, z3, rfl, rfl, fun i hi => match i, hi with | 0, _ => rfl | 1, _ => rfl | 2, _ => rfl | 3, _ => rfl⟩
  | 1, _ => ⟨z0, y, z2, z3, rfl, rfl, fun i hi => match i, hi with | 0, _ => rfl | 1, _ => rfl | 2, _ => rfl | 3, _ => rfl⟩
  | 2, _ => ⟨z0, z1, y, z3, rfl, rfl, fun i hi => match i, hi with | 0, _ => rfl | 1, _ => rfl | 2, _ => rfl | 3, _ => rfl⟩
  | 3, _ => ⟨z0, z1, z2, y, rfl, rfl, fun i hi => match i, hi with | 0, _ => rfl | 1, _ => rfl | 2, _ => rfl | 3, _ => rfl⟩

/-- The inner loop: the four, and the own. -/
structure GI (w : World) (B : Ars) (vx vat : Value) (b9 c18 c19 j : Nat) (wi : World) : Prop where
  gl : GL w B vx vat b9 wi
  le : j ≤ 4
  ex : ∃ f0 f1 f2 f3, Blk wi c18 33 (ints4 f0 f1 f2 f3) ∧ Blk wi c19 91 (kidsCells f0 f1 f2 f3) ∧ (∀ i, i < j → four f0 f1 f2 f3 i < B.ns.length ∧ lvN B.ns (four f0 f1 f2 f3 i) = lvN B.ns (four f0 f1 f2 f3 0)) ∧ ∀ i, j ≤ i → i < 4 → four f0 f1 f2 f3 i = 0
theorem GL.keep {w wr wi : World} {A : Ars} {vx vat : Value} {b9 : Nat} {S : Nat → Prop} (h : GL w A vx vat b9 wr) (ho : Only S wr wi) (hS : ∀ k, S k → wr.heap.size ≤ k) : GL w A vx vat b9 wi :=
  ⟨⟨h.gr.at_.keep ho (fun k hk hs => by have := h.gr.at_.lt hk; have := hS k hs; omega), h.gr.inv, h.gr.wf, h.gr.most, h.gr.ref.keep ho (fun k hk hs => by have := own_lt h.gr.ref hk; have := hS k hs; omega),
    own_only h.gr.row ho (fun k hk hs => by have := own_lt h.gr.row hk; have := hS k hs; omega), h.gr.apart, h.gr.only.trans ho (fun i hi hs => by have := h.gr.only.size; have := hS i hs; omega), h.gr.foot, h.gr.newat⟩,
    h.box.only ho (fun hs => by have := h.box.lt; have := hS _ hs; omega), h.res.only ho (fun hs => by have := h.res.lt; have := hS _ hs; omega), h.lt9⟩

theorem and_i64 (z : Int) (c : Nat) (hc : c < 9223372036854775808) : ∃ m : Nat, bits .and .i64 z (c : Int) = (m : Int) ∧ m ≤ c := by
  obtain ⟨n, hn, hle⟩ : ∃ n : Nat, n = (BitVec.ofInt 64 z &&& BitVec.ofInt 64 (c : Int)).toNat ∧ n ≤ c := ⟨_, rfl, by
    rw [BitVec.toNat_and]
    refine Nat.le_trans Nat.and_le_right ?_
    simp
    omega⟩
  refine ⟨n, ?_, hle⟩
  show IntKind.i64.wrap ((BitVec.ofInt 64 z &&& BitVec.ofInt 64 (c : Int)).toNat : Int) = n
  rw [← hn]
  exact IntWalk.i64_in _ (by omega)
theorem and16 (z : Int) : ∃ m : Nat, bits .and .i64 z 65535 = (m : Int) ∧ m ≤ 65535 := and_i64 z 65535 (by omega)

def In64 (z : Int) : Prop := -9223372036854775808 ≤ z ∧ z ≤ 9223372036854775807
theorem jdx4I (z0 z1 z2 z3 : Int) (j : Nat) (hj : j < 4) (h0 : In64 z0) (h1 : In64 z1) (h2 : In64 z2) (h3 : In64 z3) : ∃ z, In64 z ∧ ∀ W, (Instr.index 33 (.agg #[.int .i64 z0, .int .i64 z1, .int .i64 z2, .int .i64 z3]) (.int .i64 (j : Int))).run Try.prog W = .ok (.int .i64 z) W :=
  match j, hj with
  | 0, _ => ⟨z0, h0, fun W => jdx4_0 _ _ _ _ W⟩
  | 1, _ => ⟨z1, h1, fun W => jdx4_1 _ _ _ _ W⟩
  | 2, _ => ⟨z2, h2, fun W => jdx4_2 _ _ _ _ W⟩
  | 3, _ => ⟨z3, h3, fun W => jdx4_3 _ _ _ _ W⟩

/-- Stores into the two boxes of the inner loop. -/
theorem GL.box4 {w wi W : World} {A : Ars} {vx vat : Value} {b9 c18 c19 : Nat} {cs cs' : Array Value} (h : GL w A vx vat b9 wi) (h18 : Blk wi c18 33 cs) (h19 : Blk wi c19 91 cs') (hl : b9 < c18) (hl' : b9 < c19) (ho : Only (fun k => k = c18 ∨ k = c19) wi W) : GL w A vx vat b9 W := by
  have n18 := h.gr.at_.not_cells h18 (by decide) (by decide) (by decide)
  have n19 := h.gr.at_.not_cells h19 (by decide) (by decide) (by decide)
  have r18 := own_blk_ne h.gr.ref h18 (by decide)
  have r19 := own_blk_ne h.gr.ref h19 (by decide)
  have w18 := own_blk_ne h.gr.row h18 (by decide)
  have w19 := own_blk_ne h.gr.row h19 (by decide)
  have h9 := h.lt9
  refine ⟨⟨h.gr.at_.keep ho (fun k hk e => ?_), h.gr.inv, h.gr.wf, h.gr.most, h.gr.ref.keep ho (fun k hk e => ?_), own_only h.gr.row ho (fun k hk e => ?_), h.gr.apart, h.gr.only.trans ho (fun i hi e => by omega), h.gr.foot, h.gr.newat⟩, h.box.only ho (fun e => by omega), h.res.only ho (fun e => by omega), h9⟩
  · rcases e with rfl | rfl
    · exact n18 hk
    · exact n19 hk
  · rcases e with rfl | rfl
    · exact r18 hk
    · exact r19 hk
  · rcases e with rfl | rfl
    · exact w18 hk
    · exact w19 hk

theorem GI.next {w W : World} {B : Ars} {vx vat : Value} {b9 c18 c19 j y f0 f1 f2 f3 u0 u1 u2 u3 : Nat} (gl : GL w B vx vat b9 W) (hj : j < 4) (hlt : ∀ i, i < j → four f0 f1 f2 f3 i < B.ns.length ∧ lvN B.ns (four f0 f1 f2 f3 i) = lvN B.ns (four f0 f1 f2 f3 0))
    (hz : ∀ i, j ≤ i → i < 4 → four f0 f1 f2 f3 i = 0) (hu : ∀ i, i < 4 → four u0 u1 u2 u3 i = if i = j then y else four f0 f1 f2 f3 i) (hy : y < B.ns.length) (hl : lvN B.ns y = lvN B.ns (if j = 0 then y else f0))
    (h18 : Blk W c18 33 (ints4 u0 u1 u2 u3)) (h19 : Blk W c19 91 (kidsCells u0 u1 u2 u3)) : GI w B vx vat b9 c18 c19 (j + 1) W := by
  refine ⟨gl, hj, u0, u1, u2, u3, h18, h19, fun i hi => ?_, fun i h1 h2 => by rw [hu i h2, if_neg (by omega)]; exact hz i (by omega) h2⟩
  have e0 := hu 0 (by omega)
  have e1 := hu i (by omega)
  rw [e1, e0]
  by_cases e : i = j
  · subst e
    rw [if_pos rfl]
    refine ⟨hy, ?_⟩
    rw [hl]
    by_cases e' : i = 0
    · subst e'; simp
    · rw [if_neg e', if_neg (fun h => e' h.symm)]; rfl
  · rw [if_neg e]
    have := hlt i (by omega)
    refine ⟨this.1, ?_⟩
    rw [if_neg (by omega)]
    exact this.2
theorem range_cell {w : World} {gb cb n y : Nat} (h : w.ownsRow 0 32 1 (.slice (some ⟨gb, 0, none⟩) n cb) (List.range n).length (nums .u32 (List.range n))) (hy : y < n) : w.cell? ⟨gb, y, none⟩ = some (.int .u32 y) := by
  rw [List.length_range] at h
  rw [h.cellAt y (by simpa [nums] using hy)]
  simp [nums, hy]
theorem four_ext {u0 u1 u2 u3 v0 v1 v2 v3 : Nat} (h : ∀ i, i < 4 → four u0 u1 u2 u3 i = four v0 v1 v2 v3 i) : u0 = v0 ∧ u1 = v1 ∧ u2 = v2 ∧ u3 = v3 := ⟨h 0 (by omega), h 1 (by omega), h 2 (by omega), h 3 (by omega)⟩

/-- The round's end where the place stays. -/
theorem GI.stay {w U : World} {B : Ars} {vx vat : Value} {b9 c18 c19 j m f0 f1 f2 f3 u0 u1 u2 u3 : Nat} (hG : GL w B vx vat b9 U) (h18 : Blk U c18 33 (ints4 u0 u1 u2 u3)) (h19 : Blk U c19 91 (kidsCells f0 f1 f2 f3)) (h9 : b9 < c18) (h9' : b9 < c19) (hne : c18 ≠ c19) (hj : j < 4)
    (hlt : ∀ i, i < j → four f0 f1 f2 f3 i < B.ns.length ∧ lvN B.ns (four f0 f1 f2 f3 i) = lvN B.ns (four f0 f1 f2 f3 0)) (hz : ∀ i, j ≤ i → i < 4 → four f0 f1 f2 f3 i = 0) (hu : ∀ i, i < 4 → four u0 u1 u2 u3 i = if i = j then m else four f0 f1 f2 f3 i)
    (hm : m < B.ns.length) (hl : lvN B.ns m = lvN B.ns (if j = 0 then m else f0)) (n : Nat) : GI w B vx vat b9 c18 c19 (j + 1) ((U.drewN n).setCell ⟨c19, j, none⟩ (.int .u32 m)) := by
  obtain ⟨v0, v1, v2, v3, _, e2, e3⟩ := ints4_set f0 f1 f2 f3 j m hj
  obtain ⟨rfl, rfl, rfl, rfl⟩ := four_ext (fun i hi => (hu i hi).trans (e3 i hi).symm)
  have ho : Only (fun k => k = c18 ∨ k = c19) U ((U.drewN n).setCell ⟨c19, j, none⟩ (.int .u32 m)) := ((Only.refl _ U).drewN n).setCell (p := ⟨c19, j, none⟩) (fun _ => Or.inr rfl) _
  refine GI.next (hG.box4 h18 h19 h9 h9' ho) hj hlt hz e3 hm hl ((h18.drewN n).far (by simpa using hne) _) ?_
  rw [← e2]
  exact (h19.drewN n).set_ j _
/-- .. and where the first one is taken. -/
theorem GI.first {w U : World} {B : Ars} {vx vat : Value} {b9 c18 c19 j m y f0 f1 f2 f3 u0 u1 u2 u3 : Nat} (hG : GL w B vx vat b9 U) (h18 : Blk U c18 33 (ints4 u0 u1 u2 u3)) (h19 : Blk U c19 91 (kidsCells f0 f1 f2 f3)) (h9 : b9 < c18) (h9' : b9 < c19) (hne : c18 ≠ c19) (hj : j < 4)
    (hlt : ∀ i, i < j → four f0 f1 f2 f3 i < B.ns.length ∧ lvN B.ns (four f0 f1 f2 f3 i) = lvN B.ns (four f0 f1 f2 f3 0)) (hz : ∀ i, j ≤ i → i < 4 → four f0 f1 f2 f3 i = 0) (hu : ∀ i, i < 4 → four u0 u1 u2 u3 i = if i = j then m else four f0 f1 f2 f3 i)
    (hm : y < B.ns.length) (hl : lvN B.ns y = lvN B.ns (if j = 0 then y else f0)) (n : Nat) : GI w B vx vat b9 c18 c19 (j + 1) (((U.drewN n).setCell ⟨c18, j, none⟩ (.int .i64 y)).setCell ⟨c19, j, none⟩ (.int .u32 y)) := by
  obtain ⟨v0, v1, v2, v3, _, e2, e3⟩ := ints4_set f0 f1 f2 f3 j y hj
  obtain ⟨x0, x1, x2, x3, d1, _, d3⟩ := ints4_set u0 u1 u2 u3 j y hj
  obtain ⟨rfl, rfl, rfl, rfl⟩ := four_ext (u0 := x0) (u1 := x1) (u2 := x2) (u3 := x3) (v0 := v0) (v1 := v1) (v2 := v2) (v3 := v3) (fun i hi => by
    rw [d3 i hi, e3 i hi, hu i hi]
    by_cases e : i = j
    · rw [if_pos e, if_pos e]
    · rw [if_neg e, if_neg e, if_neg e])
  have ho : Only (fun k => k = c18 ∨ k = c19) U (((U.drewN n).setCell ⟨c18, j, none⟩ (.int .i64 y)).setCell ⟨c19, j, none⟩ (.int .u32 y)) := (((Only.refl _ U).drewN n).setCell (p := ⟨c18, j, none⟩) (fun _ => Or.inl rfl) _).setCell (p := ⟨c19, j, none⟩) (fun _ => Or.inr rfl) _
  refine GI.next (hG.box4 h18 h19 h9 h9' ho) hj hlt hz e3 hm hl ?_ ?_
  · rw [← d1]
    exact ((h18.drewN n).set_ j _).far (by simpa using hne) _
  · rw [← e2]
    exact ((h19.drewN n).far (by simpa using hne.symm) _).set_ j _

theorem GL.fin {w wr W : World} {A : Ars} {vx vat : Value} {b9 : Nat} (h : GL w A vx vat b9 wr) (ho : Only (fun k => k = w.heap.size) wr W) : Gr w A vx vat W := by
  have n := h.gr.at_.not_cells h.res (by decide) (by decide) (by decide)
  have r := own_blk_ne h.gr.ref h.res (by decide)
  have q := own_blk_ne h.gr.row h.res (by decide)
  exact ⟨h.gr.at_.keep ho (fun k hk e => n (e ▸ hk)), h.gr.inv, h.gr.wf, h.gr.most, h.gr.ref.keep ho (fun k hk e => r (e ▸ hk)), own_only h.gr.row ho (fun k hk e => q (e ▸ hk)), h.gr.apart, h.gr.only.trans ho (fun i hi e => by omega), h.gr.foot, h.gr.newat⟩
end Go.Proofs.Ytblhbfniomlfkaa
