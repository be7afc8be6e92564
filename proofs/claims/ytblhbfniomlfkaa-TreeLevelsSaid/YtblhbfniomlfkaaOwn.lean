/- honeycomblaw03.Own, honeycomblaw04.Own; append of one cell to an owned row. -/
import Derived.Test.YtblhbfniomlfkaaLeaves
namespace Go.Proofs.Ytblhbfniomlfkaa
open Go.RowKit

theorem Own3_any (a b h : Int) (w : World) : Calls Try.prog 50 #[.agg #[.int .i64 a, .int .i64 b, .int .i64 h]] w fun e w' => e = .returned (.agg #[.int .i64 a, .int .i64 b, .int .i64 h]) ∧ Only (fun _ => False) w w' := by
  go_enter Try.func50, Try.ntmps50
  go_wp2
  exact bodyPost_ret (v := .agg #[.int .i64 a, .int .i64 b, .int .i64 h]) (by simp [results, go_sem]) rfl ⟨rfl, ((Only.refl _ _).alloc _).alloc _⟩

theorem cell_info : (Try.prog.info? 72).map (fun i => (i.zero, i.size, i.bytes)) = some (some (.agg #[.int .i64 0, .int .i64 0, .int .i64 0]), 3, 24) := by kernel_rfl
theorem rcell_info : (Try.prog.info? 55).map (fun i => (i.zero, i.size, i.bytes)) = some (some (.agg #[.int .i64 0, .int .i64 0, .int .i64 0]), 3, 24) := by kernel_rfl

section
variable {ops : Array Oper} {rest : List Oper} {o : Oper} {a : Act} {Q : Exit → Act → World → Prop}
theorem wp_pushC (w : World) (hg : o.guard = none) (s x : Operand) (t : TypeId) (hop : o.op = .call { callee := .builtin .append, args := #[s, x], argTypes := #[t, t] }) (e : TypeId)
    (hinfo : (Try.prog.info? e).map (fun i => (i.zero, i.size, i.bytes)) = some (some (.agg #[.int .i64 0, .int .i64 0, .int .i64 0]), 3, 24)) (ht : Try.prog.underlying t = some (.slice e)) (v : Value) (l : List Cl) (hs : a.eval s = v)
    (hown : ClAt w e v l) (hn : l.length < 4294967296) (g : Nat) (c : Cl) (hx : a.eval x = .slice (some ⟨g, 0, none⟩) 1 1) (hB : Blk w g e #[.int .i64 c.a, .int .i64 c.b, .int .i64 c.h])
    (hK : ∀ g' cap w', ClAt w' e (.slice (some ⟨g', 0, none⟩) (l.length + 1) cap) (l ++ [c]) → w.grownBy w' v.ownBlock → (v.ownBlock = some g' ∨ g' = w.heap.size) → g' < w'.heap.size →
      wpList Try.prog ops Q rest (a.put o.dst (.slice (some ⟨g', 0, none⟩) (l.length + 1) cap)) w') : wpList Try.prog ops Q (o :: rest) a w := by
  obtain ⟨i, hi, hz0, hz1, hz2⟩ := info_parts hinfo
  refine wpList_append_lies _ hg s x t hop 0 e i _ 3 24 ht hi hz0 hz1 hz2 rfl (by omega) v l.length (clCells l) hs hown ⟨g, 0, none⟩ 1 1 [.int .i64 c.a, .int .i64 c.b, .int .i64 c.h] hx rfl (World.news_of_block (cs := #[.int .i64 c.a, .int .i64 c.b, .int .i64 c.h]) (t := e) (fr := (0, 0)) hB) (by simp [Value.oneCell'])
    (by omega) (by unfold maxLen; omega) (by omega) (Nat.zero_le _) w.heap.size rfl ?_
  intro g' cap w' h1 h2 h3 h4
  refine hK g' cap w' ?_ h2 h3 h4
  unfold ClAt
  rw [clCells_append]
  simpa [clCells, Cl.cells] using h1
end

/-- A row of cells of the call's own. -/
structure ORow (e : TypeId) (w : World) (l : List Cl) (v : Value) (wr : World) : Prop where
  row : ClAt wr e v l
  only : Only (fun _ => False) w wr
  new : ∀ k, v.ownBlock = some k → w.heap.size ≤ k
theorem ORow.push {e : TypeId} {w wr W : World} {l : List Cl} {v : Value} {g cp : Nat} {c : Cl} {o : Obj} (h : ORow e w l v wr) (hg : (wr.alloc o).grownBy W v.ownBlock) (hr : ClAt W e (.slice (some ⟨g, 0, none⟩) (l.length + 1) cp) (l ++ [c])) (hat : v.ownBlock = some g ∨ wr.heap.size ≤ g) :
    ORow e w (l ++ [c]) (.slice (some ⟨g, 0, none⟩) (l.length + 1) cp) W :=
  ⟨hr, ((h.only.alloc o).mono (T := fun k => v.ownBlock = some k) (fun _ _ h => h.elim)).grown hg (fun k e _ => e) |>.trans (Only.refl _ _) (fun _ _ h => h) |> fun ho => ⟨ho.os, ho.tape, ho.output, ho.size, fun k hk _ => ho.block k hk (fun hs => by have := h.new k hs; omega)⟩, fun k hk => by
    have hk' : g = k := by simpa [Value.ownBlock] using hk
    subst hk'
    rcases hat with e | e
    · exact h.new g e
    · exact Nat.le_trans h.only.size e⟩
theorem empty_cells (e : TypeId) (w : World) : ClAt (w.alloc (.cells #[] e)) e (.slice (some ⟨w.heap.size, 0, none⟩) 0 0) [] :=
  World.ownsRow_lit w (base := 0) (e := e) (size := 3) #[] 0 (Nat.zero_le _) (by unfold maxLen; omega) rfl

theorem take_snoc_getD (l : List Cl) {i : Nat} (hi : i < l.length) : l.take (i + 1) = l.take i ++ [l.getD i default] := by
  rw [List.take_succ_eq_append_getElem hi, List.getD_eq_getElem?_getD, List.getElem?_eq_getElem hi]
  rfl

def OwnPost (e : TypeId) (l : List Cl) (w : World) (en : Ending) (w' : World) : Prop := ∃ g c, en = .returned (.slice (some ⟨g, 0, none⟩) l.length c) ∧ ORow e w l (.slice (some ⟨g, 0, none⟩) l.length c) w'

set_option maxRecDepth 100000 in
set_option maxHeartbeats 1000000 in
theorem Own4_any (v : Value) (l : List Cl) (w : World) (hR : ClAt w 55 v l) : Calls Try.prog 35 #[v] w (OwnPost 72 (l.take 40) w) := by
  obtain ⟨ad, cap, hv, hm⟩ := own_slice hR
  have hm : l.length ≤ 9223372036854775807 := by unfold maxLen at hm; omega
  have HR := Lib.hid hR
  have HV := Lib.hid hv
  clear hR
  rw [HV.out]
  clear hv
  go_enter Try.func35, Try.ntmps35
  go_wp2_with fail
  go_loopw [3, 4] (fun x c wr => ∃ (i g cp : Nat), c = .int .i64 i ∧ x = .slice (some ⟨g, 0, none⟩) i cp ∧ i ≤ l.length ∧ i ≤ 40 ∧ ORow 72 w (l.take i) (.slice (some ⟨g, 0, none⟩) i cp) wr) (fun _ c _ => 40 - (intOf c).toNat)
  case atStart =>
    refine ⟨0, _, _, rfl, rfl, by omega, by omega, empty_cells _ w, (Only.refl _ _).alloc _, fun k hk => ?_⟩
    have : w.heap.size = k := by simpa [Value.ownBlock] using hk
    omega
  case round =>
    obtain ⟨i, g, cp, rfl, rfl, hi, hi40, hO⟩ := hrel
    obtain ⟨wo, hwo⟩ : ∃ wo : World, wo = wr := ⟨_, rfl⟩
    rw [← hwo] at hO ⊢
    clear hwo
    have HO := Lib.hid hO
    clear hO
    have hti : (l.take i).length = i := by simp; omega
    have HTI := Lib.hid hti
    clear hti
    have hx : (i < l.length ∧ i < 40) ∨ (¬ i < l.length) ∨ (i < l.length ∧ ¬ i < 40) := by omega
    rcases hx with ⟨hlt, h40⟩ | hlt | ⟨hlt, h40⟩
    · have hR := HR.out.keep0 HO.out.only
      obtain ⟨gr, cp2, hv, _⟩ := own_form hR (by omega)
      have hv2 := HV.out.symm.trans hv
      simp only [Value.slice.injEq, true_and] at hv2
      obtain ⟨rfl, rfl⟩ := hv2
      rw [hv] at hR
      have hc := ClAt.cell hR rfl hlt
      have ht := take_snoc_getD l hlt
      obtain ⟨c, hcc⟩ : ∃ c, l.getD i default = c := ⟨_, rfl⟩
      rw [hcc] at hc ht
      obtain ⟨c0, c1, c2⟩ := hc
      have HT := Lib.hid ht
      have hgs : gr < wo.heap.size := World.block_lt_of_cell? wo _ c0
      clear hcc hv hR ht
      go_wp2_with fail
      refine (Own3_any c.a c.b c.h _).mono ?_
      rintro e w1 ⟨rfl, hO1⟩
      have hOR := HO.out
      have HO1 := Lib.hid hO1
      have hro : ORow 72 w (l.take i) (.slice (some ⟨g, 0, none⟩) i cp) w1 := ⟨hOR.row.keep0 hO1, hOR.only.trans hO1 (fun _ _ h => h), hOR.new⟩
      have hra : ClAt (w1.alloc (.cells #[.int .i64 c.a, .int .i64 c.b, .int .i64 c.h] 72)) 72 (.slice (some ⟨g, 0, none⟩) i cp) (l.take i) := hro.row.keep0 ((Only.refl _ _).alloc _)
      have HRO := Lib.hid hro
      have HRA := Lib.hid hra
      clear hO1 hro hra hOR c0 c1 c2
      go_wp2_with (first | (at_builtin; refine wp_pushC _ rfl _ _ 61 rfl 72 cell_info Try.underlying61 (.slice (some ⟨g, 0, none⟩) i cp) (l.take i) rfl HRA.out (by rw [HTI.out]; omega) w1.heap.size c rfl (Blk.new _ _ _) ?_; intro g' c' W4 hr4 hg4 hat4 _) | fail)
      go_roundw
      case rel =>
        have hat5 : (Value.slice (some ⟨g, 0, none⟩) i cp).ownBlock = some g' ∨ w1.heap.size ≤ g' := by
          rcases hat4 with h | h
          · exact .inl h
          · right; rw [World.size_alloc] at h; omega
        have hp := HRO.out.push hg4 hr4 hat5
        rw [← HT.out, HTI.out] at hp
        exact ⟨i + 1, _, _, by go_num, rfl, hlt, h40, hp⟩
      case measure => simp [intOf]; omega
    · have hf : l.take i = l.take 40 := by rw [List.take_of_length_le (by omega), List.take_of_length_le (by omega)]
      have HF := Lib.hid hf
      clear hf
      go_wp2_with fail
      go_ret
      have h := HO.out
      refine ⟨g, cp, ?_, ?_⟩
      · rw [← HF.out, HTI.out]; rfl
      · rw [← HF.out, HTI.out]; exact h
    · have hf : l.take i = l.take 40 := by rw [show i = 40 from by omega]
      have HF := Lib.hid hf
      clear hf
      go_wp2_with fail
      go_ret
      have h := HO.out
      refine ⟨g, cp, ?_, ?_⟩
      · rw [← HF.out, HTI.out]; rfl
      · rw [← HF.out, HTI.out]; exact h
end Go.Proofs.Ytblhbfniomlfkaa
