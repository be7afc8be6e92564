/- A queue: a slice of ints that is cut at its head and appended to at its end. -/
import Derived.Test.YtblhbfniomlfkaaRefJoin
import Derived.ArgAppend
namespace Go.Proofs.Ytblhbfniomlfkaa
open Go.RowKit

structure QIs (w : World) (g off cap : Nat) (cur : Array Value) (l : List Nat) : Prop where
  blk : w.heap[g]? = some (.cells cur 3 (0, 0))
  le : l.length ≤ cap
  max : cap ≤ maxLen
  size : cap = 0 ∨ off + cap ≤ cur.size
  cells : ∀ i, i < l.length → cur[off + i]? = some (.int .i64 (l.getD i 0 : Nat))

/-- The queue's value, what it holds, in block g. -/
def QAt (w : World) (v : Value) (g : Nat) (l : List Nat) : Prop := ∃ off cap cur, v = .slice (some ⟨g, off, none⟩) l.length cap ∧ QIs w g off cap cur l

theorem QIs.keep {w w' : World} {g off cap : Nat} {cur : Array Value} {l : List Nat} {S : Nat → Prop} (h : QIs w g off cap cur l) (ho : Only S w w') (hS : ¬ S g) : QIs w' g off cap cur l :=
  ⟨(ho.block g (Blk.lt (t := 3) h.blk) hS).trans h.blk, h.le, h.max, h.size, h.cells⟩
theorem QAt.keep {w w' : World} {v : Value} {g : Nat} {l : List Nat} {S : Nat → Prop} (h : QAt w v g l) (ho : Only S w w') (hS : ¬ S g) : QAt w' v g l := by
  obtain ⟨off, cap, cur, hv, h⟩ := h
  exact ⟨off, cap, cur, hv, h.keep ho hS⟩
theorem QAt.lt {w : World} {v : Value} {g : Nat} {l : List Nat} (h : QAt w v g l) : g < w.heap.size := by
  obtain ⟨off, cap, cur, hv, h⟩ := h
  exact Blk.lt (t := 3) h.blk
theorem QIs.cell {w : World} {g off cap : Nat} {cur : Array Value} {l : List Nat} (h : QIs w g off cap cur l) {i : Nat} (hi : i < l.length) : w.cell? ⟨g, off + i, none⟩ = some (.int .i64 (l.getD i 0 : Nat)) :=
  (cell_of_row w g (off + i) cur 3 (0, 0) h.blk).trans (h.cells i hi)

theorem QAt.ofRow {w : World} {base g n cap : Nat} {l : List Nat} (h : w.ownsRow base 3 1 (.slice (some ⟨g, 0, none⟩) n cap) n (nums .i64 l)) (hn : n = l.length) : QAt w (.slice (some ⟨g, 0, none⟩) n cap) g l := by
  subst hn
  rcases h.2 with ⟨h1, _⟩ | ⟨g', cap', cur, hv, _, hb, hle, hmx, hsz, htk⟩
  · cases h1
  · cases hv
    refine ⟨0, cap, cur, rfl, hb, hle, hmx, .inr (by omega), fun i hi => ?_⟩
    have h2 : cur.toList[i]? = (cur.toList.take (l.length * 1))[i]? := by rw [List.getElem?_take]; simp [hi]
    rw [Nat.zero_add, ← Array.getElem?_toList, h2, htk]
    simp [nums, hi]

section
variable {H : Type} {ops : Array Oper} {rest : List Oper} {o : Oper} {a : Act} {Q : Exit → Act → World → Prop}
/-- 'q[1:]'. -/
theorem wp_qtail (w : World) (hg : o.guard = none) (x : Operand) (hop : o.op = .slice 24 x (some (.const (.int .i64 1))) none none) (v : Value) (g y : Nat) (l : List Nat) (hx : a.eval x = v) (hQ : QAt w v g (y :: l))
    (hK : ∀ v', QAt w v' g l → wpList Try.prog ops Q rest (a.put o.dst v') w) : wpList Try.prog ops Q (o :: rest) a w := by
  obtain ⟨off, cap, cur, rfl, h⟩ := hQ
  have hle := h.le
  simp only [List.length_cons] at hle hx
  refine wpList_plain hg fun K hK' => ?_
  have hrun := hK (.slice (if cap = 1 then some ⟨g, off, none⟩ else some ⟨g, off + 1, none⟩) l.length (cap - 1)) (by
    by_cases e : cap = 1
    · rw [if_pos e]
      subst e
      refine ⟨off, 0, cur, rfl, h.blk, by omega, by omega, .inl rfl, fun i hi => by omega⟩
    · rw [if_neg e]
      refine ⟨off + 1, cap - 1, cur, rfl, h.blk, by omega, by have := h.max; omega, ?_, fun i hi => ?_⟩
      · rcases h.size with e' | e'
        · omega
        · exact .inr (by omega)
      · have := h.cells (i + 1) (by simp; omega)
        rw [Nat.add_assoc, Nat.add_comm 1 i, this]
        simp)
  have hel : Try.prog.elem 24 = 3 := by kernel_rfl
  have hund : Try.prog.underlying 24 = some (.slice (Try.prog.elem 24)) := by rw [hel]; exact Try.underlying24
  have hs : (Instr.slice 24 (.slice (some ⟨g, off, none⟩) (l.length + 1) cap) (some (.int .i64 1)) none none).run Try.prog w = .ok (.slice (if cap = 1 then some ⟨g, off, none⟩ else some ⟨g, off + 1, none⟩) l.length (cap - 1)) w := by
    rw [run_slice_l w 24 _ _ _ hund .i64 1 (by omega) (by omega), hel, int_size]
    simp [sliced, Addr.add_lit, Result.andThen]
  have hs2 := (run_sliceAt_slice (w := w) 24 (.slice (some ⟨g, off, none⟩) (l.length + 1) cap) (some (.int .i64 1)) none none hund).trans hs
  have hc : a.eval (.const (.int .i64 1)) = .int .i64 1 := rfl
  clear hs
  generalize (Value.slice (if cap = 1 then some ⟨g, off, none⟩ else some ⟨g, off + 1, none⟩) l.length (cap - 1)) = v' at *
  unfold Oper.wp
  simp only [execOp, hop, hx, hc, Option.map, hs2, Result.andThen, Sem.run_bind, Sem.run_pure]
  exact hK' _ _ hrun

/-- 'append(q, y)'. -/
theorem wp_qpush (w : World) (hg : o.guard = none) (s x : Operand) (hop : o.op = .call { callee := .builtin .append, args := #[s, x], argTypes := #[24, 24] }) (v : Value) (g : Nat) (l : List Nat) (hs : a.eval s = v) (hQ : QAt w v g l) (hn : l.length < 4294967296)
    (b y : Nat) (hx : a.eval x = .slice (some ⟨b, 0, none⟩) 1 1) (hB : Blk w b 3 #[.int .i64 y])
    (hK : ∀ v' g' w', QAt w' v' g' (l ++ [y]) → Only (fun k => k = g) w w' → (g' = g ∨ w.heap.size ≤ g') → wpList Try.prog ops Q rest (a.put o.dst v') w') : wpList Try.prog ops Q (o :: rest) a w := by
  obtain ⟨off, cap, cur, rfl, h⟩ := hQ
  obtain ⟨i, hi, hz0, hz1, hz2⟩ := info_parts int_info
  have hcell : ∀ j, w.cell? ⟨g, j, none⟩ = cur[j]? := fun j => cell_of_row w g j cur 3 (0, 0) h.blk
  have hfz : ∀ j, w.frozen? ⟨g, j, none⟩ = false := fun j => Blk.frozen (t := 3) h.blk j
  refine wpList_append_arg w hg s x 24 hop 3 i _ 1 8 Try.underlying24 hi hz0 hz1 hz2 rfl (by omega) g off l.length cap (nums .i64 l) hs (by simp [nums]) (fun j u hu => ?_) ⟨b, 0, none⟩ 1 1 [.int .i64 y] hx rfl
    (World.news_of_block (cs := #[.int .i64 y]) (t := 3) (fr := (0, 0)) hB) (by simp [Value.oneCell']) (fun hr j hj => ?_) (by unfold maxLen; omega) (by omega) (fun hr => ?_) (fun hr v' w' hown hgr => ?_)
  · have hj : j < l.length := by
      rcases Nat.lt_or_ge j l.length with h | h
      · exact h
      · rw [List.getElem?_eq_none (by simpa [nums] using h)] at hu; cases hu
    rw [hcell, h.cells j hj]
    rw [← hu]
    simp [nums, hj]
  · have hj0 : j = 0 := by simpa using hj
    subst hj0
    rcases h.size with e | e
    · omega
    · refine ⟨?_, hfz _⟩
      rw [hcell, Array.getElem?_eq_getElem (by omega)]
      rfl
  · rcases h.size with e | e
    · omega
    · have e1 : w.setCells g (off + l.length * 1) [.int .i64 y] = w.setCell ⟨g, off + l.length, none⟩ (.int .i64 y) := by simp [World.setCells]
      rw [e1]
      refine hK _ g _ ⟨off, cap, cur.setIfInBounds (off + l.length) (.int .i64 y), by simp, (Blk.set_ (t := 3) h.blk _ _), by simp; omega, h.max, .inr (by simpa using e), fun i hi => ?_⟩ (Only.set1 w g (off + l.length) (.int .i64 y)) (.inl rfl)
      rw [List.length_append, List.length_singleton] at hi
      by_cases ei : i = l.length
      · subst ei
        rw [Array.getElem?_setIfInBounds]
        simp
        omega
      · rw [Array.getElem?_setIfInBounds, if_neg (by omega), h.cells i (by omega)]
        simp [List.getElem?_append_left (show i < l.length by omega)]
  · obtain ⟨g', cap', hv', _, _⟩ := own_form hown (by omega)
    subst hv'
    refine hK _ g' w' (QAt.ofRow (base := w.heap.size) (l := l ++ [y]) (by rw [nums_push]; exact hown) (by simp)) ((Only.refl _ w).grown hgr (fun k e => by cases e)) (.inr (hown.lt g' rfl).1)

/-- 'append([]int{}, places...)'. -/
theorem wp_qcopy (w : World) (hg : o.guard = none) (s x : Operand) (hop : o.op = .call { callee := .builtin .append, args := #[s, x], argTypes := #[24, 24] }) (e0 : Nat) (hs : a.eval s = .slice (some ⟨e0, 0, none⟩) 0 0) (hE : w.ownsRow 0 3 1 (.slice (some ⟨e0, 0, none⟩) 0 0) 0 [])
    (base p cp : Nat) (l : List Nat) (hn : l.length < 4294967296) (hx : a.eval x = .slice (some ⟨p, 0, none⟩) l.length cp) (hR : w.ownsRow base 3 1 (.slice (some ⟨p, 0, none⟩) l.length cp) l.length (nums .i64 l))
    (hK : ∀ v' g' w', QAt w' v' g' l → Only (fun k => k = e0) w w' → (g' = e0 ∨ w.heap.size ≤ g') → wpList Try.prog ops Q rest (a.put o.dst v') w') : wpList Try.prog ops Q (o :: rest) a w := by
  obtain ⟨i, hi, hz0, hz1, hz2⟩ := info_parts int_info
  have hnl : (nums .i64 l).length = l.length * 1 := by simp [nums]
  have hnews : ∀ j u, (nums .i64 l)[j]? = some u → w.cell? ((⟨p, 0, none⟩ : Addr).add j) = some u := fun j u hu => by
    have hj : j < l.length := by
      rcases Nat.lt_or_ge j l.length with h | h
      · exact h
      · rw [List.getElem?_eq_none (by simpa [nums] using h)] at hu; cases hu
    have hadd : (⟨p, 0, none⟩ : Addr).add j = ⟨p, j, none⟩ := by unfold Addr.add; split <;> simp_all
    rw [hadd, hR.cellAt j (by omega)]
    exact hu
  have h1c : ∀ u ∈ nums .i64 l, u.oneCell' = true := fun u hu => by
    simp only [nums, List.mem_map] at hu
    obtain ⟨n, _, rfl⟩ := hu
    rfl
  by_cases h0 : 0 < l.length
  · refine wpList_append_lies _ hg s x 24 hop 0 3 i _ 1 8 Try.underlying24 hi hz0 hz1 hz2 rfl (by omega) _ 0 [] hs hE ⟨p, 0, none⟩ l.length cp (nums .i64 l) hx hnl hnews h1c h0 (by unfold maxLen; omega) (by omega) (Nat.zero_le _) w.heap.size rfl ?_
    intro g' cap' w' h1 h2 h3 _
    rw [Nat.zero_add] at h1 ⊢
    refine hK _ g' w' (QAt.ofRow h1 rfl) ((Only.refl _ w).grown h2 (fun k e _ => by simpa [Value.ownBlock] using e.symm)) ?_
    rcases h3 with e | e
    · left; simpa [Value.ownBlock] using e.symm
    · exact .inr (by omega)
  · have hl : l = [] := List.eq_nil_of_length_eq_zero (by omega)
    subst hl
    refine wpList_append_fits w hg s x 24 hop 0 3 i 1 Try.underlying24 hi hz1 e0 0 0 [] hs hE ⟨p, 0, none⟩ 0 cp [] hx rfl (fun j u hu => by simp at hu) (fun u hu => by simp at hu) (by omega) ?_
    intro w' h1 h2
    exact hK _ e0 w' (QAt.ofRow (l := []) h1 rfl) ((Only.refl _ w).grown h2 (fun k e _ => by simpa using e.symm)) (.inl rfl)
end
end Go.Proofs.Ytblhbfniomlfkaa
