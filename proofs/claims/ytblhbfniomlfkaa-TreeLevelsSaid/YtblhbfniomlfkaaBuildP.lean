/- tree.build, the plain part: squares, points, what a node should say. -/
import Derived.Test.YtblhbfniomlfkaaEmpty
import Derived.Test.YtblhbfniomlfkaaQuarter
namespace Go.Proofs.Ytblhbfniomlfkaa
open Go.RowKit

/-! ### Rows of points -/
def ptCells (l : List Pt) : List Value := l.flatMap fun p => [.int .i64 p.1, .int .i64 p.2]
theorem ptCells_append (a b : List Pt) : ptCells (a ++ b) = ptCells a ++ ptCells b := by simp [ptCells]
theorem ptCells_length (l : List Pt) : (ptCells l).length = l.length * 2 := by
  induction l with
  | nil => rfl
  | cons n l ih => simp only [ptCells, List.flatMap_cons, List.length_append, List.length_cons] at *; rw [ih]; simp; omega
theorem ptCells_get (l : List Pt) (i j : Nat) (hi : i < l.length) (hj : j < 2) : (ptCells l)[i * 2 + j]? = [Value.int .i64 (l.getD i (0, 0)).1, Value.int .i64 (l.getD i (0, 0)).2][j]? := by
  induction l generalizing i with
  | nil => simp at hi
  | cons n l ih =>
    cases i with
    | zero =>
      simp only [ptCells, List.flatMap_cons]
      rw [List.getElem?_append_left (by simp; omega)]
      simp
    | succ i =>
      simp only [ptCells, List.flatMap_cons]
      rw [List.getElem?_append_right (by simp; omega), show (i + 1) * 2 + j - [Value.int .i64 n.1, Value.int .i64 n.2].length = i * 2 + j from by simp; omega]
      exact ih i (by simpa using hi)
def PtAt (w : World) (v : Value) (l : List Pt) : Prop := w.ownsRow 0 49 2 v l.length (ptCells l)
theorem PtAt.cell {w : World} {g n cap i : Nat} {l : List Pt} (h : PtAt w (.slice (some ⟨g, 0, none⟩) n cap) l) (hn : n = l.length) (hi : i < l.length) :
    w.cell? ⟨g, i * 2, none⟩ = some (.int .i64 (l.getD i (0, 0)).1) ∧ w.cell? ⟨g, i * 2 + 1, none⟩ = some (.int .i64 (l.getD i (0, 0)).2) := by
  subst hn
  have h' : ∀ j, j < 2 → w.cell? ⟨g, i * 2 + j, none⟩ = [Value.int .i64 (l.getD i (0, 0)).1, Value.int .i64 (l.getD i (0, 0)).2][j]? := fun j hj => by
    rw [World.ownsRow.cellAt h _ (by omega), ptCells_get l i j hi hj]
  exact ⟨h' 0 (by omega), h' 1 (by omega)⟩
theorem PtAt.keep {S : Nat → Prop} {w w' : World} {v : Value} {l : List Pt} (h : PtAt w v l) (ho : Only S w w') (hS : ∀ k, v.ownBlock = some k → ¬ S k) : PtAt w' v l := own_only h ho hS
theorem PtAt.keep0 {w w' : World} {v : Value} {l : List Pt} (h : PtAt w v l) (ho : Only (fun _ => False) w w') : PtAt w' v l := own_only h ho (fun _ _ h => h)
theorem PtAt.nil (w : World) : PtAt w (.slice none 0 0) [] := World.ownsRow_nil w 0 49 2
theorem pt_info : (Try.prog.info? 49).map (fun i => (i.zero, i.size, i.bytes)) = some (some (.agg #[.int .i64 0, .int .i64 0]), 2, 16) := by kernel_rfl

section
variable {ops : Array Oper} {rest : List Oper} {o : Oper} {a : Act} {Q : Exit → Act → World → Prop}
theorem wp_pushPt (w : World) (hg : o.guard = none) (s x : Operand) (hop : o.op = .call { callee := .builtin .append, args := #[s, x], argTypes := #[117, 117] }) (v : Value) (l : List Pt) (hs : a.eval s = v)
    (hown : PtAt w v l) (hn : l.length < 4294967296) (g : Nat) (p : Pt) (hx : a.eval x = .slice (some ⟨g, 0, none⟩) 1 1) (hB : Blk w g 49 #[.int .i64 p.1, .int .i64 p.2])
    (hK : ∀ g' cap w', PtAt w' (.slice (some ⟨g', 0, none⟩) (l.length + 1) cap) (l ++ [p]) → w.grownBy w' v.ownBlock → (v.ownBlock = some g' ∨ g' = w.heap.size) → g' < w'.heap.size →
      wpList Try.prog ops Q rest (a.put o.dst (.slice (some ⟨g', 0, none⟩) (l.length + 1) cap)) w') : wpList Try.prog ops Q (o :: rest) a w := by
  obtain ⟨i, hi, hz0, hz1, hz2⟩ := info_parts pt_info
  refine wpList_append_lies _ hg s x 117 hop 0 49 i _ 2 16 Try.underlying117 hi hz0 hz1 hz2 rfl (by omega) v l.length (ptCells l) hs hown ⟨g, 0, none⟩ 1 1 [.int .i64 p.1, .int .i64 p.2] hx rfl (World.news_of_block (cs := #[.int .i64 p.1, .int .i64 p.2]) (t := 49) (fr := (0, 0)) hB) (by simp [Value.oneCell'])
    (by omega) (by unfold maxLen; omega) (by omega) (Nat.zero_le _) w.heap.size rfl ?_
  intro g' cap w' h1 h2 h3 h4
  refine hK g' cap w' ?_ h2 h3 h4
  unfold PtAt
  rw [ptCells_append]
  simpa [ptCells] using h1
end

/-! ### Squares -/
/-- How many nodes a square with k points may take. -/
def bud (l k : Nat) : Nat := if k = 0 then 45 else k * 136 * (l - 1)
theorem bud_le (l k : Nat) (h : l ≤ 44) (hk : 1 ≤ k) : bud l k ≤ k * 5848 := by
  unfold bud
  rw [if_neg (by omega), Nat.mul_assoc]
  refine Nat.mul_le_mul_left _ ?_
  omega
theorem bud_top (l k : Nat) (h : l ≤ 44) : bud l k ≤ 45 + k * 5848 := by
  by_cases e : k = 0
  · unfold bud; rw [if_pos e]; omega
  · have := bud_le l k h (by omega); omega
theorem bud_split (l k0 k1 k2 k3 : Nat) (hl : 2 ≤ l) (hk : 0 < k0 + k1 + k2 + k3) : bud l k0 + bud l k1 + bud l k2 + bud l k3 + 1 ≤ bud (l + 1) (k0 + k1 + k2 + k3) := by
  have key : ∀ k, bud l k ≤ 45 + k * (136 * (l - 1)) := fun k => by
    unfold bud
    split
    · omega
    · rw [Nat.mul_assoc]; omega
  have key1 : ∀ k, k ≠ 0 → bud l k ≤ k * (136 * (l - 1)) := fun k h => by
    unfold bud
    rw [if_neg h, Nat.mul_assoc]
    exact Nat.le_refl _
  have hb : bud (l + 1) (k0 + k1 + k2 + k3) = (k0 + k1 + k2 + k3) * (136 * (l - 1)) + (k0 + k1 + k2 + k3) * 136 := by
    unfold bud
    rw [if_neg (by omega), Nat.mul_assoc, ← Nat.mul_add]
    congr 1
    omega
  rw [hb]
  have e : (k0 + k1 + k2 + k3) * (136 * (l - 1)) = k0 * (136 * (l - 1)) + k1 * (136 * (l - 1)) + k2 * (136 * (l - 1)) + k3 * (136 * (l - 1)) := by simp only [Nat.add_mul]
  rw [e]
  have a0 := key k0
  have a1 := key k1
  have a2 := key k2
  have a3 := key k3
  have b0 := key1 k0
  have b1 := key1 k1
  have b2 := key1 k2
  have b3 := key1 k3
  generalize k0 * (136 * (l - 1)) = x0 at *
  generalize k1 * (136 * (l - 1)) = x1 at *
  generalize k2 * (136 * (l - 1)) = x2 at *
  generalize k3 * (136 * (l - 1)) = x3 at *
  generalize bud l k0 = y0 at *
  generalize bud l k1 = y1 at *
  generalize bud l k2 = y2 at *
  generalize bud l k3 = y3 at *
  omega

def Sq (l : Nat) (a b : Int) (p : Pt) : Prop := (a ≤ p.1 ∧ p.1 < a + (2 ^ l : Nat)) ∧ (b ≤ p.2 ∧ p.2 < b + (2 ^ l : Nat))

/-- The points of a square are the keys that lie in it. -/
structure BIn (ks : List Pt) (l : Nat) (a b : Int) (pts : List Pt) : Prop where
  mem : ∀ p, p ∈ pts ↔ p ∈ ks ∧ Sq l a b p
  al : a % 4 = 0 ∧ b % 4 = 0
  kal : ∀ p, p ∈ ks → p.1 % 4 = 0 ∧ p.2 % 4 = 0
  lo : -8796093022208 ≤ a ∧ -8796093022208 ≤ b
  hi : a + (2 ^ l : Nat) ≤ 8796093022208 ∧ b + (2 ^ l : Nat) ≤ 8796093022208

/-- Node n says of the square what the map holds. -/
structure BOut (ks : List Pt) (f : Pt → Nat) (ns : List Nd) (l : Nat) (a b : Int) (n : Nat) : Prop where
  lt : n < ns.length
  lv : lvN ns n = l
  den : ∀ u v, u < 2 ^ (l - 2) → v < 2 ^ (l - 2) → den ns (l - 2) n u v = mval ks f (a + 4 * u, b + 4 * v)
theorem BOut.pre {ks : List Pt} {f : Pt → Nat} {ns ms : List Nd} {l n : Nat} {a b : Int} (h : BOut ks f ns l a b n) (hW : Wf ns) (hp : Pre ns ms) (hl : 2 ≤ l) : BOut ks f ms l a b n :=
  ⟨Nat.lt_of_lt_of_le h.lt hp.le, (hp.lv h.lt).trans h.lv, fun u v hu hv => (hp.den hW (l - 2) n u v h.lt (by have := h.lv; omega)).trans (h.den u v hu hv)⟩

theorem BIn.empty {ks : List Pt} {l : Nat} {a b : Int} (f : Pt → Nat) (h : BIn ks l a b []) (hl : 2 ≤ l) (u v : Nat) (hu : u < 2 ^ (l - 2)) (hv : v < 2 ^ (l - 2)) : mval ks f (a + 4 * u, b + 4 * v) = 0 := by
  unfold mval
  rw [if_neg]
  intro hk
  have hp : 2 ^ l = 4 * 2 ^ (l - 2) := by
    conv => lhs; rw [show l = l - 2 + 2 from by omega, Nat.pow_add]
    omega
  have := (h.mem (a + 4 * u, b + 4 * v)).2 ⟨hk, ⟨by simp only; omega, by simp only; rw [hp]; omega⟩, ⟨by simp only; omega, by simp only; rw [hp]; omega⟩⟩
  simp at this

/-- The only point of a leaf's square is its least one. -/
theorem BIn.leaf {ks : List Pt} {a b : Int} {p : Pt} {r : List Pt} (h : BIn ks 2 a b (p :: r)) : p = (a, b) := by
  obtain ⟨hk, ⟨⟨h1, h2⟩, h3, h4⟩⟩ := (h.mem p).1 (by simp)
  obtain ⟨k1, k2⟩ := h.kal p hk
  obtain ⟨a1, a2⟩ := h.al
  refine Prod.ext ?_ ?_
  · simp only [Nat.reducePow] at h2
    show p.1 = a
    omega
  · simp only [Nat.reducePow] at h4
    show p.2 = b
    omega

/-- Which quarter a point lies in. -/
def quad (h a b : Int) (p : Pt) : Nat := up h a p.1 + 2 * up h b p.2
theorem quad_lt (h a b : Int) (p : Pt) : quad h a b p < 4 := by have := up_lt h a p.1; have := up_lt h b p.2; unfold quad; omega

theorem BIn.part {ks : List Pt} {l : Nat} {a b : Int} {pts : List Pt} (h : BIn ks (l + 1) a b pts) (hl : 2 ≤ l) (x y : Nat) (hx : x < 2) (hy : y < 2) :
    BIn ks l (a + (2 ^ l : Nat) * x) (b + (2 ^ l : Nat) * y) (pts.filter fun p => quad (2 ^ l : Nat) a b p = x + 2 * y) := by
  have hp : 2 ^ (l + 1) = 2 * 2 ^ l := by rw [Nat.pow_succ]; omega
  have h4 : ((2 ^ l : Nat) : Int) % 4 = 0 := by
    rw [show l = l - 2 + 2 from by omega, Nat.pow_add]
    omega
  have hlo := h.lo
  have hhi := h.hi
  have hal := h.al
  rw [hp] at hhi
  have hmem := h.mem
  unfold Sq at hmem
  rw [hp] at hmem
  have hkal := h.kal
  generalize hh : 2 ^ l = n at *
  have cx : x = 0 ∨ x = 1 := by omega
  have cy : y = 0 ∨ y = 1 := by omega
  refine ⟨fun p => ?_, ?_, hkal, ?_, ?_⟩
  · rw [List.mem_filter, hmem]
    unfold Sq quad up
    rw [hh]
    simp only [decide_eq_true_eq]
    rcases cx with rfl | rfl <;> rcases cy with rfl | rfl <;> (constructor <;> intro hq <;> (refine ⟨?_, ?_⟩) <;> (try exact ⟨hq.1, ⟨by omega, by omega⟩, by omega, by omega⟩) <;> (try exact hq.1.1) <;> (try exact hq.1) <;> (try (split at hq <;> split at hq <;> omega)) <;> (try (split <;> split <;> omega)) <;> (try omega))
  · rcases cx with rfl | rfl <;> rcases cy with rfl | rfl <;> omega
  · rcases cx with rfl | rfl <;> rcases cy with rfl | rfl <;> omega
  · rw [hh]; rcases cx with rfl | rfl <;> rcases cy with rfl | rfl <;> omega

theorem den_low (ns : List Nd) (k : Nat) : ∀ (m q x y c d : Nat), m ≤ k → den ns m q (c * 2 ^ k + x) (d * 2 ^ k + y) = den ns m q x y
  | 0, _, _, _, _, _, _ => rfl
  | m + 1, q, x, y, c, d, hm => by
    have hk : k = m + 1 + (k - m - 1) := by omega
    have s : ∀ c x, (c * 2 ^ k + x) / 2 ^ m % 2 = x / 2 ^ m % 2 := fun c x => by
      have e2 : c * 2 ^ k = 2 ^ m * (2 * (c * 2 ^ (k - m - 1))) := by
        conv => lhs; rw [hk, Nat.pow_add, Nat.pow_succ]
        rw [Nat.mul_assoc (2 ^ m), Nat.mul_left_comm c (2 ^ m), Nat.mul_left_comm c 2]
      rw [e2, Nat.mul_add_div (Nat.pow_pos (by omega))]
      omega
    simp only [den, s]
    exact den_low ns k m _ x y c d (by omega)

/-- The node of four quarters. -/
theorem BOut.join {ks : List Pt} {f : Pt → Nat} {ns ms : List Nd} {l out k0 k1 k2 k3 : Nat} {a b : Int} (hW : Wf ns) (hp : Pre ns ms) (hl : 2 ≤ l)
    (h : ∀ x y : Nat, x < 2 → y < 2 → BOut ks f ns l (a + (2 ^ l : Nat) * x) (b + (2 ^ l : Nat) * y) (four k0 k1 k2 k3 (x + 2 * y))) (ho : out < ms.length) (hlv : lvN ms out = l + 1) (hk : ∀ j, kidN ms out j = four k0 k1 k2 k3 j) : BOut ks f ms (l + 1) a b out := by
  refine ⟨ho, hlv, fun u v hu hv => ?_⟩
  obtain ⟨k, rfl⟩ : ∃ k, l = k + 2 := ⟨l - 2, by omega⟩
  have e1 : k + 2 + 1 - 2 = k + 1 := by omega
  rw [e1] at hu hv ⊢
  have hpos : 0 < 2 ^ k := Nat.pow_pos (by omega)
  rw [Nat.pow_succ] at hu hv
  have qu : u / 2 ^ k < 2 := Nat.div_lt_of_lt_mul (by omega)
  have qv : v / 2 ^ k < 2 := Nat.div_lt_of_lt_mul (by omega)
  have du := Nat.div_add_mod u (2 ^ k)
  have dv := Nat.div_add_mod v (2 ^ k)
  have ru := Nat.mod_lt u hpos
  have rv := Nat.mod_lt v hpos
  have hb := (h (u / 2 ^ k) (v / 2 ^ k) qu qv).pre hW hp hl
  simp only [Go.Proofs.Ytblhbfniomlfkaa.den]
  rw [Nat.mod_eq_of_lt qu, Nat.mod_eq_of_lt qv, hk]
  have hd := hb.den (u % 2 ^ k) (v % 2 ^ k) (by simpa using ru) (by simpa using rv)
  rw [Nat.add_sub_cancel] at hd
  have hlow := den_low ms k k (four k0 k1 k2 k3 (u / 2 ^ k + 2 * (v / 2 ^ k))) (u % 2 ^ k) (v % 2 ^ k) (u / 2 ^ k) (v / 2 ^ k) (Nat.le_refl _)
  rw [Nat.mul_comm (u / 2 ^ k), du, Nat.mul_comm (v / 2 ^ k), dv] at hlow
  rw [hlow, hd]
  have h4 : 2 ^ (k + 2) = 4 * 2 ^ k := by rw [Nat.pow_add]; omega
  rw [h4]
  generalize u / 2 ^ k = cu at *
  generalize v / 2 ^ k = cv at *
  generalize u % 2 ^ k = ru' at *
  generalize v % 2 ^ k = rv' at *
  congr 1
  refine Prod.ext ?_ ?_
  · show a + ((4 * 2 ^ k : Nat) : Int) * cu + 4 * ru' = a + 4 * u
    rw [← du]
    have : ((4 * 2 ^ k : Nat) : Int) * (cu : Int) = 4 * ((2 ^ k * cu : Nat) : Int) := by
      rw [Int.natCast_mul, Int.natCast_mul, Int.mul_assoc]; rfl
    rw [this]
    omega
  · show b + ((4 * 2 ^ k : Nat) : Int) * cv + 4 * rv' = b + 4 * v
    rw [← dv]
    have : ((4 * 2 ^ k : Nat) : Int) * (cv : Int) = 4 * ((2 ^ k * cv : Nat) : Int) := by
      rw [Int.natCast_mul, Int.natCast_mul, Int.mul_assoc]; rfl
    rw [this]
    omega

/-- The j-th part. -/
def prt (h a b : Int) (pts : List Pt) (j : Nat) : List Pt := pts.filter fun p => quad h a b p = j
theorem prt_snoc (h a b : Int) (pts : List Pt) (p : Pt) (j : Nat) : prt h a b (pts ++ [p]) j = if quad h a b p = j then prt h a b pts j ++ [p] else prt h a b pts j := by
  unfold prt
  rw [List.filter_append]
  by_cases e : quad h a b p = j
  · rw [if_pos e]; simp [e]
  · rw [if_neg e]; simp [e]
theorem prt_len (h a b : Int) (pts : List Pt) : (prt h a b pts 0).length + (prt h a b pts 1).length + (prt h a b pts 2).length + (prt h a b pts 3).length = pts.length := by
  induction pts using snoc_ind with
  | h0 => rfl
  | h1 l p ih =>
    simp only [prt_snoc]
    have hq := quad_lt h a b p
    have : quad h a b p = 0 ∨ quad h a b p = 1 ∨ quad h a b p = 2 ∨ quad h a b p = 3 := by omega
    rcases this with e | e | e | e <;> simp [e] <;> omega
theorem prt_le (h a b : Int) (pts : List Pt) (j : Nat) : (prt h a b pts j).length ≤ pts.length := List.length_filter_le _ _
end Go.Proofs.Ytblhbfniomlfkaa
