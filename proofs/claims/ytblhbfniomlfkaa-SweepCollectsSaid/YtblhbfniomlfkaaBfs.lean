/- The law of a search by a queue. Plain. -/
import Derived.Test.YtblhbfniomlfkaaGraph
namespace Go.Proofs.Ytblhbfniomlfkaa

structure Bfs (ns : List Nd) (rs S T : List Nat) : Prop where
  ok : SOk ns S
  lt : ∀ x, x ∈ T → x < ns.length
  root : ∀ r, r ∈ rs → r ∈ S ∨ r ∈ T
  reach : ∀ k, k ∈ S ∨ k ∈ T → ∃ r, r ∈ rs ∧ Rch ns r k
  kid : ∀ k, k ∈ S → 2 < lvN ns k → ∀ i, i < 4 → kidN ns k i ∈ S ∨ kidN ns k i ∈ T

theorem Rch.trans {ns : List Nd} {a b c : Nat} (h : Rch ns a b) (k : Rch ns b c) : Rch ns a c := by
  induction h with
  | refl a => exact k
  | step hl _ ih => exact .step hl (ih k)
theorem Bfs.start {ns : List Nd} {rs : List Nat} (h : ∀ r, r ∈ rs → r < ns.length) : Bfs ns rs [] rs :=
  ⟨⟨List.nodup_nil, fun _ h => by simp at h⟩, h, fun _ h => .inr h, fun k hk => ⟨k, by simpa using hk, .refl k⟩, fun _ h => by simp at h⟩
theorem Bfs.seen {ns : List Nd} {rs S T : List Nat} {x : Nat} (h : Bfs ns rs S (x :: T)) (hx : x ∈ S) : Bfs ns rs S T :=
  ⟨h.ok, fun y hy => h.lt y (by simp [hy]), fun r hr => by
    rcases h.root r hr with h1 | h1
    · exact .inl h1
    · rcases List.mem_cons.1 h1 with rfl | h1
      · exact .inl hx
      · exact .inr h1, fun k hk => h.reach k (by rcases hk with h1 | h1; exact .inl h1; exact .inr (by simp [h1])), fun k hk hl i hi => by
    rcases h.kid k hk hl i hi with h1 | h1
    · exact .inl h1
    · rcases List.mem_cons.1 h1 with h1 | h1
      · rw [h1]; exact .inl hx
      · exact .inr h1⟩
theorem Bfs.mark {ns : List Nd} {rs S T U : List Nat} {x : Nat} (hW : Wf ns) (h : Bfs ns rs S (x :: T)) (hx : x ∉ S) (hU : ∀ k, k ∈ U → 2 < lvN ns x ∧ ∃ i, i < 4 ∧ k = kidN ns x i) (hall : 2 < lvN ns x → ∀ i, i < 4 → kidN ns x i ∈ U) : Bfs ns rs (x :: S) (T ++ U) := by
  have hxN := h.lt x (by simp)
  refine ⟨⟨List.nodup_cons.2 ⟨hx, h.ok.1⟩, fun k hk => ?_⟩, fun y hy => ?_, fun r hr => ?_, fun k hk => ?_, fun k hk hl i hi => ?_⟩
  · rcases List.mem_cons.1 hk with rfl | hk
    · exact hxN
    · exact h.ok.2 k hk
  · rcases List.mem_append.1 hy with hy | hy
    · exact h.lt y (by simp [hy])
    · obtain ⟨hl, i, hi, rfl⟩ := hU y hy
      have := hW.kid hxN hl i
      omega
  · rcases h.root r hr with h1 | h1
    · exact .inl (by simp [h1])
    · rcases List.mem_cons.1 h1 with rfl | h1
      · exact .inl (by simp)
      · exact .inr (by simp [h1])
  · have hxr := h.reach x (.inr (by simp))
    rcases hk with hk | hk
    · rcases List.mem_cons.1 hk with rfl | hk
      · exact hxr
      · exact h.reach k (.inl hk)
    · rcases List.mem_append.1 hk with hk | hk
      · exact h.reach k (.inr (by simp [hk]))
      · obtain ⟨hl, i, _, rfl⟩ := hU k hk
        obtain ⟨r, hr, h1⟩ := hxr
        exact ⟨r, hr, h1.trans (.step (j := i) hl (.refl _))⟩
  · rcases List.mem_cons.1 hk with rfl | hk
    · exact .inr (by simp [hall hl i hi])
    · rcases h.kid k hk hl i hi with h1 | h1
      · exact .inl (by simp [h1])
      · rcases List.mem_cons.1 h1 with h1 | h1
        · rw [h1]; exact .inl (by simp)
        · exact .inr (by simp [h1])
theorem Bfs.done {ns : List Nd} {rs S : List Nat} (h : Bfs ns rs S []) : Seen ns rs S :=
  ⟨h.ok, fun r hr => by simpa using h.root r hr, fun k hk => ⟨h.reach k (.inl hk), fun hl i hi => by simpa using h.kid k hk hl i hi⟩⟩
end Go.Proofs.Ytblhbfniomlfkaa
