/- '==' of keys and of arrays of four numbers, as one Bool. -/
import Derived.Test.YtblhbfniomlfkaaGet
namespace Go.Proofs.Ytblhbfniomlfkaa
open Go.RowKit

section
variable {P : Program}
/-- '==' of two aggregates, whose equality is known. -/
theorem wpList_eql {ops : Array Oper} {rest : List Oper} {o : Oper} {a : Act} {w : World} {Q : Exit → Act → World → Prop} (T : TypeId) (x y : Operand) (ho : o.op = .binOp .eql T x y T) (hgd : o.guard = none) (hm : P.eqGuardType P.depth T = false)
    (xs ys : Array Value) (b : Bool) (hx : a.eval x = .agg xs) (hy : a.eval y = .agg ys) (he : ∀ w, (Op.equalIn 10000 T (.agg xs) (.agg ys)).run P w = .ok b w) (h : wpList P ops Q rest (a.put o.dst (.bool b)) w) : wpList P ops Q (o :: rest) a w :=
  wpList_plain hgd fun _ hK => by
    unfold Oper.wp execOp
    simp only [ho, hx, hy, Sem.run_bind, run_eqGuard_agg w .eql T x y xs ys hm, Result.andThen_ok, run_eql_struct, he, Sem.run_pure]
    exact hK _ _ h
theorem wpList_neq {ops : Array Oper} {rest : List Oper} {o : Oper} {a : Act} {w : World} {Q : Exit → Act → World → Prop} (T : TypeId) (x y : Operand) (ho : o.op = .binOp .neq T x y T) (hgd : o.guard = none) (hm : P.eqGuardType P.depth T = false)
    (xs ys : Array Value) (b : Bool) (hx : a.eval x = .agg xs) (hy : a.eval y = .agg ys) (he : ∀ w, (Op.equalIn 10000 T (.agg xs) (.agg ys)).run P w = .ok b w) (h : wpList P ops Q rest (a.put o.dst (.bool (!b))) w) : wpList P ops Q (o :: rest) a w :=
  wpList_plain hgd fun _ hK => by
    unfold Oper.wp execOp
    simp only [ho, hx, hy, Sem.run_bind, run_eqGuard_agg w .neq T x y xs ys hm, Result.andThen_ok, run_neq_struct, he, Sem.run_pure]
    exact hK _ _ h
end

theorem a4_under : Try.prog.underlying 91 = some (.array 4 32) := by kernel_rfl
theorem u32_under : Try.prog.underlying 32 = some (.int .u32) := by kernel_rfl
theorem u32_size (w : World) : (sizeOf 32).run Try.prog w = .ok 1 w := by kernel_rfl
theorem p4_0 (x y z u : Value) (w : World) : (part 32 #[x, y, z, u] 0).run Try.prog w = .ok x w := by kernel_rfl
theorem p4_1 (x y z u : Value) (w : World) : (part 32 #[x, y, z, u] 1).run Try.prog w = .ok y w := by kernel_rfl
theorem p4_2 (x y z u : Value) (w : World) : (part 32 #[x, y, z, u] 2).run Try.prog w = .ok z w := by kernel_rfl
theorem p4_3 (x y z u : Value) (w : World) : (part 32 #[x, y, z, u] 3).run Try.prog w = .ok u w := by kernel_rfl

theorem run_eq4 (d : Nat) (a0 a1 a2 a3 b0 b1 b2 b3 : Int) (w : World) :
    (Op.equalIn (d + 2) 91 (.agg #[.int .u32 a0, .int .u32 a1, .int .u32 a2, .int .u32 a3]) (.agg #[.int .u32 b0, .int .u32 b1, .int .u32 b2, .int .u32 b3])).run Try.prog w = .ok (a0 == b0 && (a1 == b1 && (a2 == b2 && a3 == b3))) w := by
  have he : ∀ a b : Int, ∀ w, (Op.equalIn (d + 1) 32 (.int .u32 a) (.int .u32 b)).run Try.prog w = .ok (a == b) w := fun a b w => run_equalIn_int w d 32 .u32 .u32 a b u32_under
  rw [Op.equalIn]
  simp only [Sem.run_bind, run_underlying a4_under, Result.andThen_ok, u32_size]
  generalize Op.equalIn (d + 1) = E at *
  simp [Std.Legacy.Range.forIn_eq_forIn_range', List.range', p4_0, p4_1, p4_2, p4_3, he]
  by_cases h0 : a0 = b0 <;> by_cases h1 : a1 = b1 <;> by_cases h2 : a2 = b2 <;> by_cases h3 : a3 = b3 <;> simp [h0, h1, h2, h3]

def Key.val (k : Key) : Value := .agg #[.int .i64 k.lv, .int .u32 k.bits, .int .u32 k.k0, .int .u32 k.k1, .int .u32 k.k2, .int .u32 k.k3]

theorem int_under : Try.prog.underlying 3 = some (.int .i64) := by kernel_rfl
theorem leaf_under : Try.prog.underlying 68 = some (.int .u32) := by kernel_rfl
theorem key_guard : Try.prog.eqGuardType Try.prog.depth 124 = false := by kernel_rfl
theorem key_plain : Try.prog.stoodInHeld 124 = false := by kernel_rfl
theorem pk_0 (x y z u v t : Value) (w : World) : (part 3 #[x, y, z, u, v, t] 0).run Try.prog w = .ok x w := by kernel_rfl
theorem pk_1 (x y z u v t : Value) (w : World) : (part 68 #[x, y, z, u, v, t] 1).run Try.prog w = .ok y w := by kernel_rfl
theorem pk_2 (x y z u v t : Value) (w : World) : (part 91 #[x, y, z, u, v, t] 2).run Try.prog w = .ok (.agg #[z, u, v, t]) w := by kernel_rfl

theorem run_eqKey (d : Nat) (a b : Key) (w : World) : (Op.equalIn (d + 3) 124 a.val b.val).run Try.prog w = .ok (decide (a = b)) w := by
  obtain ⟨a0, a1, a2, a3, a4, a5⟩ := a
  obtain ⟨b0, b1, b2, b3, b4, b5⟩ := b
  have hu := Try.underlying124
  have he : ∀ x y : Int, ∀ w, (Op.equalIn (d + 2) 3 (.int .i64 x) (.int .i64 y)).run Try.prog w = .ok (x == y) w := fun x y w => run_equalIn_int w (d + 1) 3 .i64 .i64 x y int_under
  have hl : ∀ x y : Int, ∀ w, (Op.equalIn (d + 2) 68 (.int .u32 x) (.int .u32 y)).run Try.prog w = .ok (x == y) w := fun x y w => run_equalIn_int w (d + 1) 68 .u32 .u32 x y leaf_under
  have h4 := run_eq4 d
  obtain ⟨fs, hfs⟩ : ∃ fs, Try.prog.underlying 124 = some (.struct fs) := ⟨_, hu⟩
  have hf : Try.prog.fieldsOf 124 = fs := by simp only [Program.fieldsOf, hfs]
  unfold Key.val
  rw [run_equalIn_struct (P := Try.prog) w (d + 2) 124 _ _ (by rw [hf]; exact hfs) key_plain, hf]
  obtain rfl : _ = fs := by simpa only [Option.some.injEq, TypeDesc.struct.injEq] using hu.symm.trans hfs
  simp [Op.eqFields, pk_0, pk_1, pk_2, he, hl, h4]
  clear hu hfs hf he hl h4
  by_cases h0 : a0 = b0 <;> by_cases h1 : a1 = b1 <;> by_cases h2 : a2 = b2 <;> by_cases h3 : a3 = b3 <;> by_cases h4 : a4 = b4 <;> by_cases h5 : a5 = b5 <;> simp [h0, h1, h2, h3, h4, h5] <;> omega
end Go.Proofs.Ytblhbfniomlfkaa
