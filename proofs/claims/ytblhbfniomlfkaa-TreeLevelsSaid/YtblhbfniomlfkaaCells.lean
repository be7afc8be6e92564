/- Rows of cells (three numbers each), the program's and the document's. -/
import Derived.Test.YtblhbfniomlfkaaLevel
namespace Go.Proofs.Ytblhbfniomlfkaa
open Go.RowKit

structure Cl where
  a : Int
  b : Int
  h : Int
  deriving DecidableEq, Inhabited

def Cl.cells (c : Cl) : List Value := [.int .i64 c.a, .int .i64 c.b, .int .i64 c.h]
def clCells (l : List Cl) : List Value := l.flatMap Cl.cells
theorem clCells_append (a b : List Cl) : clCells (a ++ b) = clCells a ++ clCells b := by simp [clCells]
theorem clCells_length (l : List Cl) : (clCells l).length = l.length * 3 := by
  induction l with
  | nil => rfl
  | cons n l ih => simp only [clCells, List.flatMap_cons, List.length_append, List.length_cons] at *; rw [ih]; simp [Cl.cells]; omega
theorem clCells_get (l : List Cl) (i j : Nat) (hi : i < l.length) (hj : j < 3) : (clCells l)[i * 3 + j]? = (l.getD i default).cells[j]? := by
  induction l generalizing i with
  | nil => simp at hi
  | cons n l ih =>
    have hl : n.cells.length = 3 := rfl
    cases i with
    | zero =>
      simp only [clCells, List.flatMap_cons]
      rw [List.getElem?_append_left (by omega)]
      simp
    | succ i =>
      simp only [clCells, List.flatMap_cons]
      rw [List.getElem?_append_right (by omega), hl, show (i + 1) * 3 + j - 3 = i * 3 + j from by omega]
      exact ih i (by simpa using hi)

/-- A row of cells that the call owns. -/
def ClAt (w : World) (e : TypeId) (v : Value) (l : List Cl) : Prop := w.ownsRow 0 e 3 v l.length (clCells l)

structure Cl3 (w : World) (g i : Nat) (c : Cl) : Prop where
  c0 : w.cell? ⟨g, i * 3, none⟩ = some (.int .i64 c.a)
  c1 : w.cell? ⟨g, i * 3 + 1, none⟩ = some (.int .i64 c.b)
  c2 : w.cell? ⟨g, i * 3 + 2, none⟩ = some (.int .i64 c.h)
theorem ClAt.cell {w : World} {e : TypeId} {g n cap i : Nat} {l : List Cl} (h : ClAt w e (.slice (some ⟨g, 0, none⟩) n cap) l) (hn : n = l.length) (hi : i < l.length) : Cl3 w g i (l.getD i default) := by
  subst hn
  have h' : ∀ j, j < 3 → w.cell? ⟨g, i * 3 + j, none⟩ = (l.getD i default).cells[j]? := fun j hj => by
    rw [World.ownsRow.cellAt h _ (by omega), clCells_get l i j hi hj]
  exact ⟨h' 0 (by omega), h' 1 (by omega), h' 2 (by omega)⟩
theorem ClAt.keep {S : Nat → Prop} {w w' : World} {e : TypeId} {v : Value} {l : List Cl} (h : ClAt w e v l) (ho : Only S w w') (hS : ∀ k, v.ownBlock = some k → ¬ S k) : ClAt w' e v l := own_only h ho hS
theorem ClAt.keep0 {w w' : World} {e : TypeId} {v : Value} {l : List Cl} (h : ClAt w e v l) (ho : Only (fun _ => False) w w') : ClAt w' e v l := own_only h ho (fun _ _ h => h)

/-- Coordinates that can be turned. -/
def Cl.Ok (c : Cl) : Prop := (-9223372036854775807 ≤ c.a ∧ c.a ≤ 9223372036854775807) ∧ (-9223372036854775807 ≤ c.b ∧ c.b ≤ 9223372036854775807)

/-- The document's level of a list. -/
def levelOf (l : List Cl) : Nat := l.foldl (fun n c => least (fun k => insB k c.a c.b) n) 3
theorem levelOf_take (l : List Cl) (i : Nat) (hi : i < l.length) : levelOf (l.take (i + 1)) = least (fun k => insB k (l.getD i default).a (l.getD i default).b) (levelOf (l.take i)) := by
  unfold levelOf
  rw [List.take_succ_eq_append_getElem hi, List.foldl_append]
  simp [hi]
theorem levelOf_bd (l : List Cl) (i : Nat) : 3 ≤ levelOf (l.take i) ∧ levelOf (l.take i) ≤ 44 := by
  induction i with
  | zero => simp [levelOf]
  | succ i ih =>
    by_cases hi : i < l.length
    · rw [levelOf_take l i hi]
      have := least_le (fun k => insB k (l.getD i default).a (l.getD i default).b) (levelOf (l.take i)) ih.2
      omega
    · rw [List.take_of_length_le (by omega)]
      rw [List.take_of_length_le (by omega)] at ih
      exact ih

set_option maxHeartbeats 1000000 in
theorem rLevel_any (v : Value) (l : List Cl) (w : World) (hR : ClAt w 55 v l) (hok : ∀ c, c ∈ l → c.Ok) : Calls Try.prog 17 #[v] w fun e w' => e = .returned (.int .i64 (levelOf l)) ∧ Only (fun _ => False) w w' := by
  obtain ⟨ad, cap, hv, hm⟩ := own_slice hR
  have hm : l.length ≤ 9223372036854775807 := by unfold maxLen at hm; omega
  have HR := Lib.hid hR
  have HV := Lib.hid hv
  have HK := Lib.hid hok
  clear hR hok
  rw [HV.out]
  clear hv
  go_enter Try.func17, Try.ntmps17
  go_wp2
  go_loopw [3, 8] (fun v c wr => ∃ i : Nat, c = .int .i64 i ∧ v = .int .i64 (levelOf (l.take i)) ∧ i ≤ l.length ∧ Only (fun _ => False) w wr) (fun _ c _ => l.length - (intOf c).toNat)
  case atStart => exact ⟨0, rfl, rfl, by omega, Only.refl _ _⟩
  case round =>
    obtain ⟨i, rfl, rfl, hi, hO⟩ := hrel
    obtain ⟨wo, hwo⟩ : ∃ wo : World, wo = wr := ⟨_, rfl⟩
    rw [← hwo] at hO ⊢
    clear hwo
    have HO := Lib.hid hO
    clear hO
    by_cases hlt : i < l.length
    · have hR := HR.out.keep0 HO.out
      obtain ⟨g, cp, hv, _⟩ := own_form hR (by omega)
      have hv2 := HV.out.symm.trans hv
      simp only [Value.slice.injEq, true_and] at hv2
      obtain ⟨rfl, rfl⟩ := hv2
      rw [hv] at hR
      have hc := ClAt.cell hR rfl hlt
      have hcok := HK.out (l.getD i default) (by rw [List.getD_eq_getElem?_getD, List.getElem?_eq_getElem hlt]; exact List.getElem_mem hlt)
      have hstep := levelOf_take l i hlt
      have hbd := levelOf_bd l i
      generalize l.getD i default = q at hc hcok hstep
      obtain ⟨qa, qb, qh⟩ := q
      unfold Cl.Ok at hcok
      simp only at hcok hstep
      obtain ⟨c0, c1, c2⟩ := hc
      simp only at c0 c1 c2
      have hin := fun (n : Nat) (hn : n ≤ 44) W => rInside_any n qa qb W (by omega) (by omega) (by omega)
      have HIN := Lib.hid hin
      obtain ⟨m, hmm⟩ : ∃ m, m = levelOf (l.take i) := ⟨_, rfl⟩
      rw [← hmm] at hstep hbd ⊢
      have HST := Lib.hid hstep
      have hgs : g < wo.heap.size := World.block_lt_of_cell? wo _ c0
      clear hin hstep hmm hR hv
      go_wp2_with fail
      go_loop [3] (fun v => ∃ n : Nat, v = .int .i64 n ∧ m ≤ n ∧ n ≤ 44 ∧ least (fun k => insB k qa qb) n = least (fun k => insB k qa qb) m) (fun v => 44 - (intOf v).toNat)
      case atStart => exact ⟨m, rfl, by omega, by omega, rfl⟩
      case round =>
        obtain ⟨n, rfl, hmn, hn, hL⟩ := hrel
        have HL := Lib.hid hL
        clear hL
        by_cases h44 : n < 44
        · have hlt4 : (n : Int) < 44 := by omega
          have h1 := HIN.out n hn
          cases e1 : insB n qa qb
          · rw [e1] at h1
            have E1 := Lib.hid e1
            have HH1 := Lib.hid h1
            clear e1 h1
            go_wp2_with fail
            refine (HH1.out _).mono ?_
            rintro e w1 ⟨rfl, rfl⟩
            go_wp2_with fail
            go_round
            case rel => exact ⟨n + 1, by go_num, by omega, by omega, by rw [← HL.out, least_no h44 E1.out]⟩
            case measure => simp [intOf]; omega
          · rw [e1] at h1
            have E1 := Lib.hid e1
            have HH1 := Lib.hid h1
            clear e1 h1
            go_wp2_with fail
            refine (HH1.out _).mono ?_
            rintro e w1 ⟨rfl, rfl⟩
            go_wp2_with fail
            go_roundw
            case rel => exact ⟨i + 1, by go_num, by rw [HST.out, ← HL.out, least_yes (f := fun k => insB k qa qb) E1.out], hlt, HO.out.alloc _⟩
            case measure => simp [intOf]; omega
        · have hlt4 : ¬ (n : Int) < 44 := by omega
          go_wp2_with fail
          go_roundw
          case rel => exact ⟨i + 1, by go_num, by rw [HST.out, ← HL.out, least_top _ h44], hlt, HO.out.alloc _⟩
          case measure => simp [intOf]; omega
    · obtain rfl : i = l.length := by omega
      go_wp2_with fail
      go_ret
      exact ⟨ret_i64 (by rw [List.take_length]), HO.out⟩
end Go.Proofs.Ytblhbfniomlfkaa
