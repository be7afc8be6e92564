/- Maps of uint32: an association list says what the block holds. -/
import Derived.Test.YtblhbfniomlfkaaNew
import Derived.Maps.OwnSet
import Derived.Maps.Views
namespace Go.Proofs.Ytblhbfniomlfkaa
open Go.RowKit Go.Maps

theorem keyed_u32 : Keyed Try.prog 32 := int_keyed Try.underlying32
theorem zero_int (w : World) : (zeroValue 3).run Try.prog w = .ok (.int .i64 0) w := by kernel_rfl
theorem zero_u32 (w : World) : (zeroValue 32).run Try.prog w = .ok (.int .u32 0) w := by kernel_rfl
theorem wf_u32 {k : Nat} (h : k < 4294967296) : (Lit.int .u32 (k : Int)).wf = true := by
  simp only [Lit.wf, IntKind.min, IntKind.max, IntKind.signed, IntKind.bits, Bool.and_eq_true, decide_eq_true_eq, Bool.false_eq_true, if_false]
  omega
theorem key_u32 {k : Nat} (h : k < 4294967296) : keyOf Try.prog 32 (.int .u32 k) = some (.int .u32 k) :=
  keyOf_int_mk Try.underlying32 (wf_u32 h)

/-- What the list says of a key. -/
def look (M : List (Nat × Nat)) (k : Nat) : Nat := (M.lookup k).getD 0
def hasK (M : List (Nat × Nat)) (k : Nat) : Bool := (M.lookup k).isSome

theorem look_same (M : List (Nat × Nat)) (k v : Nat) : look ((k, v) :: M) k = v := by simp [look]
theorem look_other (M : List (Nat × Nat)) (k v : Nat) {j : Nat} (h : j ≠ k) : look ((k, v) :: M) j = look M j := by
  have : (j == k) = false := by simpa using h
  simp [look, List.lookup_cons, this]
theorem hasK_same (M : List (Nat × Nat)) (k v : Nat) : hasK ((k, v) :: M) k = true := by simp [hasK]
theorem hasK_other (M : List (Nat × Nat)) (k v : Nat) {j : Nat} (h : j ≠ k) : hasK ((k, v) :: M) j = hasK M j := by
  have : (j == k) = false := by simpa using h
  simp [hasK, List.lookup_cons, this]

structure MapIs (e : TypeId) (q : IntKind) (w : World) (b : Nat) (M : List (Nat × Nat)) (D : DataW Unit) : Prop where
  own : w.ownsMap Try.prog 32 (plainElem Try.prog e) b M.length D
  look : ∀ k : Nat, k < 4294967296 → D.atKey (.int .u32 k) (.lit (.int q 0)) = .lit (.int q (look M k))
  has : ∀ k : Nat, k < 4294967296 → Maps.has D (.int .u32 k) = hasK M k
  size : Maps.size D = M.length

/-- Block b is a map from uint32 that holds the pairs of M. -/
def MapAt (e : TypeId) (q : IntKind) (w : World) (b : Nat) (M : List (Nat × Nat)) : Prop := ∃ D, MapIs e q w b M D

theorem MapAt.made (e : TypeId) (q : IntKind) (w : World) : MapAt e q (w.alloc (.map #[] 0)) w.heap.size [] :=
  ⟨.map [], World.ownsMap_made w _ _ _, fun _ _ => rfl, fun _ _ => rfl, rfl⟩

section
variable {e : TypeId} {q : IntKind} {w w' : World} {b : Nat} {M : List (Nat × Nat)}
theorem MapAt.lt (h : MapAt e q w b M) : b < w.heap.size := by obtain ⟨D, h⟩ := h; exact h.own.lt
theorem MapAt.keep {S : Nat → Prop} (h : MapAt e q w b M) (ho : Only S w w') (hb : ¬ S b) : MapAt e q w' b M := by
  obtain ⟨D, h⟩ := h
  have hlt := h.own.lt
  obtain ⟨es, clock, hh, F, hs, hD⟩ := h.own
  exact ⟨D, ⟨es, clock, (ho.block b hlt hb).trans hh, F, hs, hD⟩, h.look, h.has, h.size⟩
theorem MapAt.not_cells (h : MapAt e q w b M) {g : Nat} {t : TypeId} {cs : Array Value} (hB : Blk w g t cs) : b ≠ g := by
  rintro rfl
  obtain ⟨D, h⟩ := h
  obtain ⟨es, clock, hh, _⟩ := h.own
  unfold Blk at hB
  rw [hh] at hB
  cases hB
theorem MapAt.not_own (h : MapAt e q w b M) {base : Nat} {t : TypeId} {size n : Nat} {v : Value} {xs : List Value} (ho : w.ownsRow base t size v n xs) : v.ownBlock ≠ some b := by
  rcases ho.2 with ⟨rfl, _⟩ | ⟨g, cap, cur, rfl, _, hh, _⟩
  · simp [Value.ownBlock]
  · intro he
    have : g = b := by simpa [Value.ownBlock] using he
    subst this
    exact h.not_cells (t := t) hh rfl
theorem MapAt.not_foot (h : MapAt e q w b M) {A : Ars} (hA : A.At w) : ¬ A.foot b := by
  rintro (h1 | h1 | h1 | h1)
  · exact h.not_cells hA.blk h1
  · exact h.not_own hA.own h1
  · exact h.not_own hA.ows h1
  · exact h.not_own hA.owe h1
end

section
variable {H : Type} {ops : Array Oper} {rest : List Oper} {o : Oper} {a : Act} {Q : Exit → Act → World → Prop}
theorem wp_look (w : World) (hg : o.guard = none) (m x : Operand) (t : TypeId) (hop : o.op = Op.lookup t m x false) (e : TypeId) (q : IntKind) (ht : Try.prog.underlying t = some (.map 32 e)) (he : Try.prog.underlying e = some (.int q))
    (hz : (zeroValue e).run Try.prog w = .ok (.int q 0) w) (b : Nat) (M : List (Nat × Nat)) (hm : a.eval m = .map (some b)) (hM : MapAt e q w b M) (k : Nat) (hk : k < 4294967296) (hx : a.eval x = .int .u32 k)
    (hK : wpList Try.prog ops Q rest (a.put o.dst (.int q (look M k))) w) : wpList Try.prog ops Q (o :: rest) a w := by
  obtain ⟨D, hM⟩ := hM
  refine wpList_lookup_own_int w hg m x t hop 32 e q keyed_u32 ht he hz b M.length D hm hM.own _ _ hx (key_u32 hk) ?_
  intro c hat _
  rw [hM.look k hk] at hat
  injection hat with hat
  injection hat with _ hat
  rw [← hat]
  exact hK

theorem wp_look_ok (w : World) (hg : o.guard = none) (m x : Operand) (t : TypeId) (hop : o.op = Op.lookup t m x true) (e : TypeId) (q : IntKind) (ht : Try.prog.underlying t = some (.map 32 e)) (he : Try.prog.underlying e = some (.int q))
    (hz : (zeroValue e).run Try.prog w = .ok (.int q 0) w) (b : Nat) (M : List (Nat × Nat)) (hm : a.eval m = .map (some b)) (hM : MapAt e q w b M) (k : Nat) (hk : k < 4294967296) (hx : a.eval x = .int .u32 k)
    (hK : wpList Try.prog ops Q rest (a.put o.dst (.tuple #[.int q (look M k), .bool (hasK M k)])) w) : wpList Try.prog ops Q (o :: rest) a w := by
  obtain ⟨D, hM⟩ := hM
  refine wpList_lookup_own_ok_int w hg m x t hop 32 e q keyed_u32 ht he hz b M.length D hm hM.own _ _ hx (key_u32 hk) ?_
  intro c hat _
  rw [hM.look k hk] at hat
  injection hat with hat
  injection hat with _ hat
  rw [← hat, hM.has k hk]
  exact hK

theorem wp_put (w : World) (hg : o.guard = none) (m x v : Operand) (t : TypeId) (hop : o.op = Op.mapUpdate t m x v) (e : TypeId) (q : IntKind) (ht : Try.prog.underlying t = some (.map 32 e)) (he : Try.prog.underlying e = some (.int q))
    (b : Nat) (M : List (Nat × Nat)) (hm : a.eval m = .map (some b)) (hM : MapAt e q w b M) (hl : M.length < 4294967296) (k n : Nat) (hk : k < 4294967296) (hx : a.eval x = .int .u32 k) (hv : a.eval v = .int q n) (hn : (Lit.int q n).wf = true)
    (hnew : hasK M k = false) (hK : ∀ w', MapAt e q w' b ((k, n) :: M) → Only (fun j => j = b) w w' → wpList Try.prog ops Q rest (a.put o.dst undef) w') : wpList Try.prog ops Q (o :: rest) a w := by
  obtain ⟨D, hM⟩ := hM
  refine wpList_mapUpdate_own w hg m x v t hop 32 e keyed_u32 ht (plainElem Try.prog e) b M.length D hm hM.own (by unfold maxLen; omega) _ _ _ hx hv (key_u32 hk) _ [] (plainElem_int he hn) ?_
  intro w' hown hgr
  have hT := hM.own.tidy keyed_u32
  have hI := hM.own.isMap
  refine hK w' ⟨_, by simpa using hown, ?_, ?_, ?_⟩ ((Only.refl _ w).grown hgr (fun k e _ => by simpa using e.symm))
  · intro j hj
    by_cases e : j = k
    · subst e
      rw [atKey_put_same (k := .int .u32 (j : Int)) hI trivial, look_same]
    · rw [atKey_put_other (by simp; omega), look_other _ _ _ e, hM.look j hj]
  · intro j hj
    by_cases e : j = k
    · subst e
      rw [has_put_same (k := .int .u32 (j : Int)) hI trivial, hasK_same]
    · rw [has_put_other (by simp; omega), hasK_other _ _ _ e, hM.has j hj]
  · rw [size_put hT, hM.has k hk, hnew, hM.size]
    simp

theorem wp_maplen (w : World) (hg : o.guard = none) (m : Operand) (t : TypeId) (hop : o.op = Op.call { callee := Callee.builtin Builtin.len, args := #[m], argTypes := #[t] }) (e : TypeId) (q : IntKind) (ht : Try.prog.underlying t = some (.map 32 e))
    (b : Nat) (M : List (Nat × Nat)) (hm : a.eval m = .map (some b)) (hM : MapAt e q w b M)
    (hK : wpList Try.prog ops Q rest (a.put o.dst (.int .i64 M.length)) w) : wpList Try.prog ops Q (o :: rest) a w := by
  obtain ⟨D, hM⟩ := hM
  refine wpList_len_own w hg m t hop 32 e ht (plainElem Try.prog e) b M.length D hm hM.own ?_
  rw [hM.size]
  exact hK
end
end Go.Proofs.Ytblhbfniomlfkaa
