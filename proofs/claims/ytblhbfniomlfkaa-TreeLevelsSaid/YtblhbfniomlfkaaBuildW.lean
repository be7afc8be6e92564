/- tree.build: the memory words of its loops. -/
import Derived.Test.YtblhbfniomlfkaaBuildP
namespace Go.Proofs.Ytblhbfniomlfkaa
open Go.RowKit

theorem Ars.At.not_pts {A : Ars} {w : World} (hA : A.At w) {v : Value} {l : List Pt} (h : PtAt w v l) : ∀ k, v.ownBlock = some k → ¬ A.foot k := by
  rintro k hk (e | e | e | e)
  · subst e; exact own_blk_ne h hA.blk (by decide) hk
  · exact own_own_ne h hA.own (by decide) k hk e
  · exact own_own_ne h hA.ows (by decide) k hk e
  · exact own_own_ne h hA.owe (by decide) k hk e

theorem Ars.At.no_cells {A : Ars} {w : World} (hA : A.At w) {c : Nat} {t : TypeId} {cs : Array Value} (hB : Blk w c t cs) (h1 : t ≠ 102) (h2 : 129 ≠ t) (h3 : 32 ≠ t) : ¬ A.foot c := by
  rintro (h | h | h | h)
  · exact hB.ne_ hA.blk h1 h
  · exact own_blk_ne hA.own hB h2 h
  · exact own_blk_ne hA.ows hB h3 h
  · exact own_blk_ne hA.owe hB h3 h

def arr4 (V : Nat → Value) : Array Value := #[V 0, V 1, V 2, V 3]
theorem arr4_get (V : Nat → Value) (j : Nat) (hj : j < 4) : (arr4 V)[j]? = some (V j) :=
  match j, hj with
  | 0, _ => rfl
  | 1, _ => rfl
  | 2, _ => rfl
  | 3, _ => rfl
theorem arr4_set (V : Nat → Value) (j : Nat) (x : Value) (hj : j < 4) : (arr4 V).setIfInBounds j x = arr4 (fun i => if i = j then x else V i) :=
  match j, hj with
  | 0, _ => rfl
  | 1, _ => rfl
  | 2, _ => rfl
  | 3, _ => rfl

/-- The four parts: the box, the rows. -/
structure Prt4 (lo c12 : Nat) (h a b : Int) (q : List Pt) (V : Nat → Value) (wr : World) : Prop where
  box : Blk wr c12 137 (arr4 V)
  row : ∀ j, j < 4 → PtAt wr (V j) (prt h a b q j)
  new : ∀ j, j < 4 → ∀ k, (V j).ownBlock = some k → lo ≤ k
  ap : ∀ i j, i < 4 → j < 4 → i ≠ j → ∀ k, (V i).ownBlock = some k → (V j).ownBlock ≠ some k

theorem Prt4.keep {lo c12 : Nat} {h a b : Int} {q : List Pt} {V : Nat → Value} {wr W : World} {S : Nat → Prop} (hP : Prt4 lo c12 h a b q V wr) (ho : Only S wr W) (h1 : ¬ S c12) (h2 : ∀ j, j < 4 → ∀ k, (V j).ownBlock = some k → ¬ S k) : Prt4 lo c12 h a b q V W :=
  ⟨hP.box.only ho h1, fun j hj => (hP.row j hj).keep ho (h2 j hj), hP.new, hP.ap⟩
theorem Prt4.keep0 {lo c12 : Nat} {h a b : Int} {q : List Pt} {V : Nat → Value} {wr W : World} (hP : Prt4 lo c12 h a b q V wr) (ho : Only (fun _ => False) wr W) : Prt4 lo c12 h a b q V W := hP.keep ho (fun h => h) (fun _ _ _ _ h => h)
theorem Prt4.start {lo c12 : Nat} {h a b : Int} {wr : World} (hB : Blk wr c12 137 #[.slice none 0 0, .slice none 0 0, .slice none 0 0, .slice none 0 0]) : Prt4 lo c12 h a b [] (fun _ => .slice none 0 0) wr :=
  ⟨hB, fun j _ => PtAt.nil wr, fun j _ k hk => by simp [Value.ownBlock] at hk, fun i j _ _ _ k hk => by simp [Value.ownBlock] at hk⟩

/-- Behind the append to part j, and the store. -/
theorem Prt4.push {lo c12 g cp j : Nat} {h a b : Int} {q : List Pt} {V : Nat → Value} {p : Pt} {wr W W4 : World} (hP : Prt4 lo c12 h a b q V wr) (hj : quad h a b p = j) (h0 : Only (fun _ => False) wr W) (hlo : lo ≤ W.heap.size) (hg : W.grownBy W4 (V j).ownBlock)
    (hr : PtAt W4 (.slice (some ⟨g, 0, none⟩) ((prt h a b q j).length + 1) cp) (prt h a b q j ++ [p])) (hat : (V j).ownBlock = some g ∨ g = W.heap.size) :
    Prt4 lo c12 h a b (q ++ [p]) (fun i => if i = j then .slice (some ⟨g, 0, none⟩) ((prt h a b q j).length + 1) cp else V i) (W4.setCell ⟨c12, j, none⟩ (.slice (some ⟨g, 0, none⟩) ((prt h a b q j).length + 1) cp)) := by
  have hj4 : j < 4 := by rw [← hj]; exact quad_lt _ _ _ _
  have hP1 := hP.keep0 h0
  have ho : Only (fun k => (V j).ownBlock = some k) W W4 := (Only.refl _ W).grown hg (fun k e _ => e)
  have hb4 : Blk W4 c12 137 (arr4 V) := hP1.box.only ho (own_blk_ne (hP1.row j hj4) hP1.box (by decide))
  have hs := Only.set1 W4 c12 j (.slice (some ⟨g, 0, none⟩) ((prt h a b q j).length + 1) cp)
  refine ⟨?_, fun i hi => ?_, fun i hi k hk => ?_, fun i i' hi hi' hne k hk hk' => ?_⟩
  · rw [← arr4_set V j _ hj4]
    exact hb4.set_ j _
  · rw [prt_snoc, hj]
    by_cases e : i = j
    · subst e
      rw [if_pos rfl, if_pos rfl]
      exact hr.keep hs (fun k hk e => own_blk_ne hr hb4 (by decide) (hk.trans (congrArg some e)))
    · rw [if_neg e, if_neg (fun h => e h.symm)]
      have h1 := (hP1.row i hi).keep ho (fun k hk hk' => hP1.ap i j hi hj4 e k hk hk')
      exact h1.keep hs (fun k hk e => own_blk_ne h1 hb4 (by decide) (hk.trans (congrArg some e)))
  · by_cases e : i = j
    · rw [if_pos e] at hk
      have : g = k := by simpa [Value.ownBlock] using hk
      subst this
      rcases hat with h1 | h1
      · exact hP1.new j hj4 g h1
      · omega
    · rw [if_neg e] at hk
      exact hP1.new i hi k hk
  · by_cases e : i = j
    · rw [if_pos e] at hk
      rw [if_neg (fun h => hne (e.trans h.symm))] at hk'
      have : g = k := by simpa [Value.ownBlock] using hk
      subst this
      rcases hat with h1 | h1
      · exact hP1.ap i' j hi' hj4 (fun h => hne (e.trans h.symm)) g hk' h1
      · have := own_lt (hP1.row i' hi') hk'; omega
    · rw [if_neg e] at hk
      by_cases e' : i' = j
      · rw [if_pos e'] at hk'
        have : g = k := by simpa [Value.ownBlock] using hk'
        subst this
        rcases hat with h1 | h1
        · exact hP1.ap i j hi hj4 e g hk h1
        · have := own_lt (hP1.row i hi) hk; omega
      · rw [if_neg e'] at hk'
        exact hP1.ap i i' hi hi' hne k hk hk'

/-- The least points of the quarters, the first i of them. -/
def lowsA (h a b : Int) (i : Nat) : Array Value :=
  #[.int .i64 (if 0 < i then a else 0), .int .i64 (if 0 < i then b else 0), .int .i64 (if 1 < i then a + h else 0), .int .i64 (if 1 < i then b else 0), .int .i64 (if 2 < i then a else 0), .int .i64 (if 2 < i then b + h else 0), .int .i64 (if 3 < i then a + h else 0), .int .i64 (if 3 < i then b + h else 0)]
theorem lowsA_get (h a b : Int) (j : Nat) (hj : j < 4) : (lowsA h a b 4)[j * 2]? = some (.int .i64 (a + h * (j % 2 : Nat))) ∧ (lowsA h a b 4)[j * 2 + 1]? = some (.int .i64 (b + h * (j / 2 : Nat))) :=
  match j, hj with
  | 0, _ => ⟨by simp [lowsA], by simp [lowsA]⟩
  | 1, _ => ⟨by simp [lowsA], by simp [lowsA]⟩
  | 2, _ => ⟨by simp [lowsA], by simp [lowsA]⟩
  | 3, _ => ⟨by simp [lowsA], by simp [lowsA]⟩

/-- How many nodes the first i quarters may take. -/
def budN (l : Nat) (h a b : Int) (pts : List Pt) : Nat → Nat
  | 0 => 0
  | i + 1 => budN l h a b pts i + bud l (prt h a b pts i).length
theorem budN_le (l : Nat) (h a b : Int) (pts : List Pt) (hl : 2 ≤ l) (hp : 0 < pts.length) (i : Nat) (hi : i ≤ 4) : budN l h a b pts i + 1 ≤ bud (l + 1) pts.length := by
  have h4 : budN l h a b pts 4 + 1 ≤ bud (l + 1) pts.length := by
    have hs := prt_len h a b pts
    have := bud_split l (prt h a b pts 0).length (prt h a b pts 1).length (prt h a b pts 2).length (prt h a b pts 3).length hl (by omega)
    rw [hs] at this
    simp only [budN]
    omega
  have hm : budN l h a b pts i ≤ budN l h a b pts 4 := by
    have : i = 0 ∨ i = 1 ∨ i = 2 ∨ i = 3 ∨ i = 4 := by omega
    rcases this with rfl | rfl | rfl | rfl | rfl <;> simp only [budN] <;> omega
  omega

/-- What the third loop holds. -/
structure Kids (A : Ars) (w : World) (mb n : Nat) (ks : List Pt) (f : Pt → Nat) (l : Nat) (a b : Int) (pts : List Pt) (c12 c13 c20 : Nat) (V : Nat → Value) (i : Nat) (B : Ars) (z0 z1 z2 z3 : Nat) (wr : World) : Prop where
  evo : Evo A w (budN l (2 ^ l : Nat) a b pts i) B wr
  map : PMapAt wr mb n ks f
  lows : Blk wr c13 138 (lowsA (2 ^ l : Nat) a b 4)
  parts : Prt4 w.heap.size c12 (2 ^ l : Nat) a b pts V wr
  box : Blk wr c20 91 (kidsCells z0 z1 z2 z3)
  out : ∀ j, j < i → BOut ks f B.ns l (a + (2 ^ l : Nat) * (j % 2 : Nat)) (b + (2 ^ l : Nat) * (j / 2 : Nat)) (four z0 z1 z2 z3 j)
  lo : w.heap.size ≤ c20

theorem Kids.next {A B C : Ars} {w wr W W2 : World} {mb n : Nat} {ks : List Pt} {f : Pt → Nat} {l : Nat} {a b : Int} {pts : List Pt} {c12 c13 c20 : Nat} {V : Nat → Value} {i z0 z1 z2 z3 u0 u1 u2 u3 y : Nat} (hK : Kids A w mb n ks f l a b pts c12 c13 c20 V i B z0 z1 z2 z3 wr) (hi : i < 4) (hl : 2 ≤ l)
    (h0 : Only (fun _ => False) wr W) (hE : Evo B W (bud l (prt (2 ^ l : Nat) a b pts i).length) C W2) (hy : BOut ks f C.ns l (a + (2 ^ l : Nat) * (i % 2 : Nat)) (b + (2 ^ l : Nat) * (i / 2 : Nat)) y)
    (hset : (kidsCells z0 z1 z2 z3).setIfInBounds i (.int .u32 y) = kidsCells u0 u1 u2 u3) (hu : ∀ j, j < 4 → four u0 u1 u2 u3 j = if j = i then y else four z0 z1 z2 z3 j) :
    Kids A w mb n ks f l a b pts c12 c13 c20 V (i + 1) C u0 u1 u2 u3 (W2.setCell ⟨c20, i, none⟩ (.int .u32 y)) := by
  have hBW := hK.evo.at_.keep h0 (fun _ _ h => h)
  have hmW := hK.map.keep h0 (fun h => h)
  have hlW := hK.lows.only h0 (fun h => h)
  have hpW := hK.parts.keep0 h0
  have hbW := hK.box.only h0 (fun h => h)
  have hm2 := hmW.keep hE.only (hmW.not_foot hBW)
  have hl2 := hlW.only hE.only (hBW.no_cells hlW (by decide) (by decide) (by decide))
  have hp2 := hpW.keep hE.only (hBW.no_cells hpW.box (by decide) (by decide) (by decide)) (fun j hj k hk => hBW.not_pts (hpW.row j hj) k hk)
  have hb2 := hbW.only hE.only (hBW.not_box hbW)
  have hev := hK.evo.trans (Evo.sooner h0 hE)
  have od : Only (fun _ => False) W2 W2 := Only.refl _ W2
  have os := Only.set1 W2 c20 i (.int .u32 y)
  have hev2 := hev.later od
  refine ⟨⟨hev2.at_.keep os (fun k hk e => hev2.at_.not_box hb2 (e ▸ hk)), hev2.inv, hev2.wf, hev2.em, hev2.pre, hev2.len, hev2.p, hev2.most, hev2.only.trans os (fun j hj e => by have := hK.lo; omega), hev2.foot⟩, (hm2.keep od (fun h => h)).keep os ((hm2.keep od (fun h => h)).not_cells hb2), hl2.only os (fun e => ?_), (hp2.keep0 od).keep os (fun e => ?_) (fun j hj k hk e => ?_), ?_, fun j hj => ?_, hK.lo⟩
  · exact hl2.ne_ hb2 (by decide) e
  · exact (hp2.keep0 od).box.ne_ hb2 (by decide) e
  · exact own_blk_ne ((hp2.keep0 od).row j hj) hb2 (by decide) (hk.trans (congrArg some e))
  · rw [← hset]
    exact hb2.set_ i _
  · rw [hu j (by omega)]
    by_cases e : j = i
    · rw [if_pos e]; subst e; exact hy
    · rw [if_neg e]; exact (hK.out j (by omega)).pre hK.evo.wf hE.pre hl
end Go.Proofs.Ytblhbfniomlfkaa
