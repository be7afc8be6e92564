/- append of one number to an owned row. -/
import Derived.Test.YtblhbfniomlfkaaMove
namespace Go.Proofs.Ytblhbfniomlfkaa
open Go.RowKit

def nums (q : IntKind) (l : List Nat) : List Value := l.map fun (n : Nat) => .int q n
theorem nums_u32 (l : List Nat) : nums .u32 l = u32s l := rfl
theorem nums_push (q : IntKind) (l : List Nat) (y : Nat) : nums q (l ++ [y]) = nums q l ++ [.int q y] := by simp [nums]
theorem int_info : (Try.prog.info? 3).map (fun i => (i.zero, i.size, i.bytes)) = some (some (.int .i64 0), 1, 8) := by kernel_rfl

section
variable {H : Type} {ops : Array Oper} {rest : List Oper} {o : Oper} {a : Act} {Q : Exit → Act → World → Prop}
theorem wp_push (w : World) (hg : o.guard = none) (s x : Operand) (t : TypeId) (hop : o.op = .call { callee := .builtin .append, args := #[s, x], argTypes := #[t, t] }) (e : TypeId) (q : IntKind) (bytes : Nat)
    (hinfo : (Try.prog.info? e).map (fun i => (i.zero, i.size, i.bytes)) = some (some (.int q 0), 1, bytes)) (hb : bytes ≤ 8) (ht : Try.prog.underlying t = some (.slice e)) (base : Nat) (v : Value) (l : List Nat) (hs : a.eval s = v)
    (hown : w.ownsRow base e 1 v l.length (nums q l)) (hn : l.length < 4294967296) (hbase : base ≤ w.heap.size) (g y : Nat) (hx : a.eval x = .slice (some ⟨g, 0, none⟩) 1 1) (hB : Blk w g e #[.int q y])
    (hK : ∀ g' cap w', w'.ownsRow base e 1 (.slice (some ⟨g', 0, none⟩) (l.length + 1) cap) (l ++ [y]).length (nums q (l ++ [y])) → w.grownBy w' v.ownBlock → (v.ownBlock = some g' ∨ g' = w.heap.size) → g' < w'.heap.size →
      wpList Try.prog ops Q rest (a.put o.dst (.slice (some ⟨g', 0, none⟩) (l.length + 1) cap)) w') : wpList Try.prog ops Q (o :: rest) a w := by
  obtain ⟨i, hi, hz0, hz1, hz2⟩ := info_parts hinfo
  have hbb : (l.length + 1) * bytes ≤ (l.length + 1) * 8 := Nat.mul_le_mul_left _ hb
  refine wpList_append_lies _ hg s x t hop base e i _ 1 bytes ht hi hz0 hz1 hz2 rfl (by omega) v l.length (nums q l) hs hown ⟨g, 0, none⟩ 1 1 [.int q y] hx rfl (World.news_of_block (cs := #[.int q y]) (t := e) (fr := (0, 0)) hB) (by simp [Value.oneCell'])
    (by omega) (by unfold maxLen; omega) (by omega) hbase w.heap.size rfl ?_
  intro g' cap w' h1 h2 h3 h4
  refine hK g' cap w' ?_ h2 h3 h4
  rw [nums_push]
  simpa using h1
end
end Go.Proofs.Ytblhbfniomlfkaa
